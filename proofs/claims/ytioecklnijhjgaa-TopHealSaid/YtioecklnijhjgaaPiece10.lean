/- piece.Split where it refuses; the reference's SplitErr; slices.Equal at strings that agree. -/
import Derived.Test.YtioecklnijhjgaaPiece3
import Derived.Test.YtioecklnijhjgaaMem
namespace Go.Proofs.Ytioecklnijhjgaa
open Go.RowKit

def splitE (s : ByteArray) (k n : Int) : Nat := if rightB k n = true then (if 60 < s.size then 2 else 0) else 1
def SplitNo (s : ByteArray) (k n : Int) (w : World) (e : Ending) (w' : World) : Prop := e = .returned (.tuple #[.slice none 0 0, .int .i64 (splitE s k n : Nat)]) ∧ w' = w
theorem piece_Split_bad (s : ByteArray) (k n : Int) (w : World) (hs : s.size ≤ 9223372036854775807) (h : splitE s k n ≠ 0) :
    Calls Try.prog 42 #[.string s, .int .i64 k, .int .i64 n] w (SplitNo s k n w) := by
  have CR := Lib.hid (piece_right k n w)
  cases hr : rightB k n with
  | false =>
    have hE : splitE s k n = 1 := by unfold splitE; rw [hr]; rfl
    rw [hr] at CR
    have HE := Lib.hid hE
    clear h hr hE
    go_enter Try.func42, Try.ntmps42
    go_wp2_with fail
    (with_reducible refine CR.out.mono ?_)
    rintro e w2 ⟨rfl, rfl⟩
    go_wp2_with fail
    go_ret2
    exact ⟨by rw [HE.out]; rfl, rfl⟩
  | true =>
    have h60 : 60 < s.size := by
      unfold splitE at h
      rw [hr, if_pos rfl] at h
      by_cases h6 : 60 < s.size
      · exact h6
      · rw [if_neg h6] at h; exact absurd rfl h
    have hE : splitE s k n = 2 := by unfold splitE; rw [hr, if_pos rfl, if_pos h60]
    rw [hr] at CR
    have HE := Lib.hid hE
    have hT : decide ((60 : Int) < s.size) = true := by simp; omega
    clear h hr hE
    go_enter Try.func42, Try.ntmps42
    go_wp2_with fail
    (with_reducible refine CR.out.mono ?_)
    rintro e w2 ⟨rfl, rfl⟩
    go_wp2_with fail
    go_ret2
    exact ⟨by rw [HE.out]; rfl, rfl⟩
theorem rightB_no {k n : Int} (h : k < 1 ∨ n < k ∨ 10 < n) : rightB k n = false := by
  unfold rightB
  simp
  omega
theorem rightB_yes {k n : Int} (h1 : ¬ k < 1) (h2 : ¬ n < k) (h3 : ¬ 10 < n) : rightB k n = true := by
  unfold rightB
  simp
  omega
end Go.Proofs.Ytioecklnijhjgaa
