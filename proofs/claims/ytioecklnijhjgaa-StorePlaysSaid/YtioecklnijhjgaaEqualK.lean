/- slices.Equal and same at what is kept, where both are the same list. -/
import Derived.Test.YtioecklnijhjgaaPlM26
set_option linter.unusedVariables false
set_option linter.unusedSimpArgs false
namespace Go.Proofs.Ytioecklnijhjgaa
open Go.RowKit

set_option maxRecDepth 20000 in
set_option maxHeartbeats 2000000 in
theorem equal_kept (l : List Kp) (n : Nat) (ao bo : Option Addr) (ca cb : Nat) (w : World) (hl : l.length = n) (hn : n ≤ 1000000) (hX : Hid (Reads w ao (kpCells l))) (hY : Hid (Reads w bo (kpCells l))) :
    Calls Try.prog 30 #[.slice ao n ca, .slice bo n cb] w fun e w' => e = .returned (.bool true) ∧ ∃ q, w' = w.drewN q := by
  have HL := Lib.hid hl
  clear hl
  go_enter Try.func30, Try.ntmps30
  go_wp2_with fail
  go_loopw [13] (fun vi wr => ∃ k : Nat, vi = .int .i64 k ∧ k ≤ n ∧ ∃ q, wr = w.drewN q) (fun vi _ => n - (intOf vi).toNat)
  case atStart => exact ⟨0, rfl, by omega, 0, rfl⟩
  case round =>
    obtain ⟨k, rfl, hk, q, rfl⟩ := hrel
    by_cases hkl : k < n
    · obtain ⟨b, o, rfl, x0, x1, x2⟩ := kp_cells hX.out (k := k) (by rw [HL.out]; exact hkl)
      obtain ⟨b2, o2, rfl, y0, y1, y2⟩ := kp_cells hY.out (k := k) (by rw [HL.out]; exact hkl)
      obtain ⟨x, hx⟩ : ∃ x, l[k]'(by rw [HL.out]; exact hkl) = x := ⟨_, rfl⟩
      rw [hx] at x0 x2 y0 y2
      obtain ⟨a, s⟩ := x
      have i0 : (0 : Int) ≤ (k : Int) := by omega
      have i1 : (k : Int) < (n : Int) := by omega
      have h1 : ((a : Int) == (a : Int)) = true := by simp
      have h2 : (s.toList == s.toList) = true := by simp
      clear hx
      go_wp2_with fail
      go_quiet (fail)
      go_wp2_with fail
      go_roundw
      case rel => exact ⟨k + 1, by go_num, by omega, by first | exact ⟨_, rfl⟩ | exact dr2 _ _ _⟩
      case measure => simp [intOf]; omega
    · obtain rfl : k = n := by omega
      go_wp2
      go_ret
      exact ⟨rfl, _, rfl⟩
theorem same_kept (l : List Kp) (n : Nat) (ao bo : Option Addr) (ca cb : Nat) (w : World) (hl : l.length = n) (hn : n ≤ 1000000) (hX : Hid (Reads w ao (kpCells l))) (hY : Hid (Reads w bo (kpCells l))) :
    Calls Try.prog 11 #[.slice ao n ca, .slice bo n cb] w fun e w' => e = .returned (.bool true) ∧ ∃ q, w' = w.drewN q := by
  have C := Lib.hid (equal_kept l n ao bo ca cb w hl hn hX hY)
  clear hl
  go_enter Try.func11, Try.ntmps11
  go_wp2_with fail
  (with_reducible refine C.out.mono ?_)
  rintro e w' ⟨rfl, q, rfl⟩
  go_wp2_with fail
  go_ret
  exact ⟨rfl, q, rfl⟩
end Go.Proofs.Ytioecklnijhjgaa
