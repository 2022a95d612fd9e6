/- piece.Split where it refuses; the reference's SplitErr; slices.Equal at strings that agree. -/
import Derived.Test.YthnbhhfbmkklmaaPiece3
import Derived.Test.YthnbhhfbmkklmaaMem
namespace Go.Proofs.Ythnbhhfbmkklmaa
open Go.RowKit

def splitE (s : ByteArray) (k n : Int) : Nat := if rightB k n = true then (if 60 < s.size then 2 else 0) else 1
def SplitNo (s : ByteArray) (k n : Int) (w : World) (e : Ending) (w' : World) : Prop := e = .returned (.tuple #[.slice none 0 0, .int .i64 (splitE s k n : Nat)]) ∧ w' = w
theorem piece_Split_bad (s : ByteArray) (k n : Int) (w : World) (hs : s.size ≤ 9223372036854775807) (h : splitE s k n ≠ 0) :
    Calls Try.prog 18 #[.string s, .int .i64 k, .int .i64 n] w (SplitNo s k n w) := by
  have CR := Lib.hid (piece_right k n w)
  cases hr : rightB k n with
  | false =>
    have hE : splitE s k n = 1 := by unfold splitE; rw [hr]; rfl
    rw [hr] at CR
    have HE := Lib.hid hE
    clear h hr hE
    go_enter Try.func18, Try.ntmps18
    go_wp2_with fail
    (with_reducible refine CR.out.mono ?_)
    rintro e w2 ⟨rfl, rfl⟩
    go_wp2_with fail
    go_ret2
    exact ⟨by rw [HE.out]; rfl, rfl⟩
  | true =>
    have h60 : 60 < s.size := by
      unfold splitE at h
      rw [hr, if_pos rfl] at h
      by_cases h6 : 60 < s.size
      · exact h6
      · rw [if_neg h6] at h; exact absurd rfl h
    have hE : splitE s k n = 2 := by unfold splitE; rw [hr, if_pos rfl, if_pos h60]
    rw [hr] at CR
    have HE := Lib.hid hE
    have hT : decide ((60 : Int) < s.size) = true := by simp; omega
    clear h hr hE
    go_enter Try.func18, Try.ntmps18
    go_wp2_with fail
    (with_reducible refine CR.out.mono ?_)
    rintro e w2 ⟨rfl, rfl⟩
    go_wp2_with fail
    go_ret2
    exact ⟨by rw [HE.out]; rfl, rfl⟩
theorem rightB_no {k n : Int} (h : k < 1 ∨ n < k ∨ 10 < n) : rightB k n = false := by
  unfold rightB
  simp
  omega
theorem rightB_yes {k n : Int} (h1 : ¬ k < 1) (h2 : ¬ n < k) (h3 : ¬ 10 < n) : rightB k n = true := by
  unfold rightB
  simp
  omega
theorem ref_SplitErr (s : ByteArray) (k n : Int) (w : World) (hs : s.size ≤ 9223372036854775807) :
    Calls Try.prog 25 #[.string s, .int .i64 k, .int .i64 n] w fun e w' => e = .returned (.int .i64 (splitE s k n : Nat)) ∧ w' = w := by
  by_cases g1 : k < 1
  · have HE : Hid (splitE s k n = 1) := Lib.hid (by unfold splitE; rw [rightB_no (.inl g1)]; rfl)
    have d1 : decide (k < 1) = true := decide_eq_true g1
    clear g1
    go_enter Try.func25, Try.ntmps25
    go_wp2_with fail
    go_ret
    exact ⟨by rw [HE.out]; rfl, rfl⟩
  by_cases g2 : n < k
  · have HE : Hid (splitE s k n = 1) := Lib.hid (by unfold splitE; rw [rightB_no (.inr (.inl g2))]; rfl)
    have d1 : decide (k < 1) = false := decide_eq_false g1
    have d2 : decide (n < k) = true := decide_eq_true g2
    clear g1 g2
    go_enter Try.func25, Try.ntmps25
    go_wp2_with fail
    go_ret
    exact ⟨by rw [HE.out]; rfl, rfl⟩
  by_cases g3 : 10 < n
  · have HE : Hid (splitE s k n = 1) := Lib.hid (by unfold splitE; rw [rightB_no (.inr (.inr g3))]; rfl)
    have d1 : decide (k < 1) = false := decide_eq_false g1
    have d2 : decide (n < k) = false := decide_eq_false g2
    have d3 : decide (10 < n) = true := decide_eq_true g3
    clear g1 g2 g3
    go_enter Try.func25, Try.ntmps25
    go_wp2_with fail
    go_ret
    exact ⟨by rw [HE.out]; rfl, rfl⟩
  have hr := rightB_yes g1 g2 g3
  have d1 : decide (k < 1) = false := decide_eq_false g1
  have d2 : decide (n < k) = false := decide_eq_false g2
  have d3 : decide (10 < n) = false := decide_eq_false g3
  clear g1 g2 g3
  by_cases h6 : 60 < s.size
  · have HE : Hid (splitE s k n = 2) := Lib.hid (by unfold splitE; rw [if_pos hr, if_pos h6])
    have hT : decide ((60 : Int) < s.size) = true := by simp; omega
    clear h6 hr
    go_enter Try.func25, Try.ntmps25
    go_wp2_with fail
    go_ret
    exact ⟨by rw [HE.out]; rfl, rfl⟩
  · have HE : Hid (splitE s k n = 0) := Lib.hid (by unfold splitE; rw [if_pos hr, if_neg h6])
    have hT : decide ((60 : Int) < s.size) = false := by simp; omega
    clear h6 hr
    go_enter Try.func25, Try.ntmps25
    go_wp2_with fail
    go_ret
    exact ⟨by rw [HE.out]; rfl, rfl⟩
set_option maxRecDepth 20000 in
set_option maxHeartbeats 2000000 in
/-- slices.Equal at strings, where both are the same row. -/
theorem equal_same (f : Nat → ByteArray) (n : Nat) (ao bo : Option Addr) (ca cb : Nat) (w : World) (hn : n ≤ 9223372036854775807)
    (hX : Hid (Reads w ao (rowF n fun j => .string (f j)))) (hY : Hid (Reads w bo (rowF n fun j => .string (f j)))) :
    Calls Try.prog 26 #[.slice ao n ca, .slice bo n cb] w fun e w' => e = .returned (.bool true) ∧ ∃ q, w' = w.drewN q := by
  go_enter Try.func26, Try.ntmps26
  go_wp2_with fail
  go_loopw [13] (fun vi wr => ∃ k : Nat, vi = .int .i64 k ∧ k ≤ n ∧ ∃ q, wr = w.drewN q) (fun vi _ => n - (intOf vi).toNat)
  case atStart => exact ⟨0, rfl, by omega, 0, rfl⟩
  case round =>
    obtain ⟨k, rfl, hk, q, rfl⟩ := hrel
    by_cases hkl : k < n
    · obtain ⟨b, o, rfl, hc⟩ := hX.out k _ (rowF_get _ hkl)
      obtain ⟨b2, o2, rfl, hc2⟩ := hY.out k _ (rowF_get _ hkl)
      obtain ⟨x, hx⟩ : ∃ x, f k = x := ⟨_, rfl⟩
      rw [hx] at hc hc2
      have i0 : (0 : Int) ≤ (k : Int) := by omega
      have i1 : (k : Int) < (n : Int) := by omega
      have hb1 : (x.toList == x.toList) = true := by simp
      have hb : (x.toList != x.toList) = false := by simp
      clear hx
      go_wp2_with fail
      go_quiet (fail)
      go_wp2
      go_roundw
      case rel => exact ⟨k + 1, by go_num, by omega, by first | exact ⟨_, rfl⟩ | exact dr2 _ _ _⟩
      case measure => simp [intOf]; omega
    · obtain rfl : k = n := by omega
      go_wp2
      go_ret
      exact ⟨rfl, _, rfl⟩
end Go.Proofs.Ythnbhhfbmkklmaa
