/- frac.Value where the list is empty or wrong. -/
import Derived.Test.YtiljppeamdoocaaRows
import Derived.Test.YtiljppeamdoocaaMem
import Derived.Handy
namespace Go.Proofs.Ytiljppeamdoocaa
open Go.RowKit

def fBadAt (x : Int) (i : Nat) : Prop := x < 0 ∨ 1000000 < x ∨ (x = 0 ∧ 0 < i)
def fBad (zs : List Int) : Prop := ∃ i x, zs[i]? = some x ∧ fBadAt x i
def ValRet (p q c : Int) (w : World) (e : Ending) (w' : World) : Prop := e = .returned (.tuple #[.agg #[.int .i64 p, .int .i64 q], .int .i64 c]) ∧ Below w.heap.size w w'
theorem below_two {w : World} (a b : Obj) : Below w.heap.size w ((w.alloc a).alloc b) := ((Below.refl _ w).alloc (Nat.le_refl _) _).alloc (by simp) _
set_option maxRecDepth 20000 in
set_option maxHeartbeats 1000000 in
theorem value_empty (ao : Option Addr) (cap : Nat) (w : World) : Calls Try.prog 13 #[.slice ao 0 cap] w (ValRet 0 0 4 w) := by
  go_enter Try.func13, Try.ntmps13
  go_wp2_with fail
  go_returns
  exact ⟨rfl, below_two _ _⟩
set_option maxRecDepth 20000 in
set_option maxHeartbeats 1000000 in
theorem value_bad (zs : List Int) (len : Nat) (ao : Option Addr) (cap : Nat) (w : World) (hl : zs.length = len) (h63 : len ≤ 9223372036854775807) (hR : Hid (Reads w ao (zs.map (Value.int .i64)))) (hbad : Hid (fBad zs)) :
    Calls Try.prog 13 #[.slice ao len cap] w (ValRet 0 0 1 w) := by
  have HL := Lib.hid hl
  clear hl
  have hne : 0 < len := by
    obtain ⟨i, x, hx, _⟩ := hbad.out
    have := (List.getElem?_eq_some_iff.1 hx).1
    rw [HL.out] at this; omega
  have hne2 : ¬ ((len : Int) = 0) := by omega
  go_enter Try.func13, Try.ntmps13
  go_wp2_with fail
  go_loop [4, 5, 15] (fun _ _ vi => ∃ i : Nat, vi = .int .i64 i ∧ i ≤ len ∧ Hid (∀ j x, j < i → zs[j]? = some x → ¬ fBadAt x j)) (fun _ _ vi => len - (intOf vi).toNat)
  case atStart => exact ⟨0, rfl, by omega, Lib.hid (by intro j x hj; omega)⟩
  case round =>
    obtain ⟨i, rfl, hi, hno⟩ := hrel
    have hil : i < len := by
      rcases Nat.lt_or_ge i len with h | h
      · exact h
      · obtain ⟨j, x, hx, hb⟩ := hbad.out
        have := (List.getElem?_eq_some_iff.1 hx).1
        rw [HL.out] at this
        exact absurd hb (hno.out j x (by omega) hx)
    obtain ⟨x, hx⟩ : ∃ x, zs[i]? = some x := ⟨zs[i]'(by rw [HL.out]; exact hil), List.getElem?_eq_getElem _⟩
    obtain ⟨b, o, rfl, cx⟩ := ((hR.out.alloc (.cells #[.int .i64 0, .int .i64 0] 23)).alloc (.cells #[.int .i64 0] 25)) i (.int .i64 x) (by rw [List.getElem?_map, hx]; rfl)
    have HX := Lib.hid hx
    clear hx
    by_cases hb : fBadAt x i
    · unfold fBadAt at hb
      have hs : x < 0 ∨ (¬ x < 0 ∧ 1000000 < x) ∨ (x = 0 ∧ 0 < i) := by omega
      rcases hs with h1 | ⟨h1, h2⟩ | ⟨rfl, h3⟩
      · have d1 : decide (x < 0) = true := by simp [h1]
        clear hb
        go_wp2_with fail
        go_returns
        exact ⟨rfl, below_two _ _⟩
      · have d1 : decide (x < 0) = false := by simp; omega
        have d2 : decide (1000000 < x) = true := by simp [h2]
        clear hb
        go_wp2_with fail
        go_returns
        exact ⟨rfl, below_two _ _⟩
      · have d3 : decide ((0 : Int) < i) = true := by simp; omega
        clear hb
        go_wp2_with fail
        go_returns
        exact ⟨rfl, below_two _ _⟩
    · have hbh := Lib.hid hb
      unfold fBadAt at hb
      have d1 : decide (x < 0) = false := by simp; omega
      have d2 : decide (1000000 < x) = false := by simp; omega
      by_cases h0 : x = 0
      · have hx0 : (x == 0) = true := by simp [h0]
        obtain rfl : i = 0 := by omega
        rw [Nat.add_zero] at cx
        clear hb
        go_wp2_with fail
        go_round
        case rel => exact ⟨0 + 1, by go_num, by omega, Lib.hid (by
          intro j y hj hy
          by_cases he : j = 0
          · subst he; rw [HX.out] at hy; cases hy; exact hbh.out
          · exact hno.out j y (by omega) hy)⟩
        case measure => simp [intOf]; omega
      · have hx0 : (x == 0) = false := by simp [h0]
        clear hb
        go_wp2_with fail
        go_round
        case rel => exact ⟨i + 1, by go_num, by omega, Lib.hid (by
          intro j y hj hy
          by_cases he : j = i
          · subst he; rw [HX.out] at hy; cases hy; exact hbh.out
          · exact hno.out j y (by omega) hy)⟩
        case measure => simp [intOf]; omega
end Go.Proofs.Ytiljppeamdoocaa
