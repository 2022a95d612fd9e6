/- slices.Index and slices.Contains at int. -/
import Derived.Test.YthnbhhfbmkklmaaRows
import Derived.Test.YthnbhhfbmkklmaaTab
namespace Go.Proofs.Ythnbhhfbmkklmaa
open Go.RowKit

set_option maxRecDepth 20000 in
set_option maxHeartbeats 400000 in
theorem index_i64 (x : Int) (zs : List Int) (len : Nat) (ao : Option Addr) (cap : Nat) (w : World) (hlen : zs.length = len) (hl : len ≤ 9223372036854775807) (hR : Hid (Reads w ao (zs.map (Value.int .i64)))) :
    Calls Try.prog 59 #[.slice ao len cap, .int .i64 x] w fun e w' => e = .returned (.int .i64 (idxA (fun y => x == y) zs)) ∧ ∃ n, w' = w.drewN n := by
  have HL := Lib.hid hlen
  clear hlen
  go_enter Try.func59, Try.ntmps59
  go_wp2_with fail
  go_loopw [8] (fun vi wr => ∃ k : Nat, vi = .int .i64 k ∧ k ≤ len ∧ Hid (∀ j y, j < k → zs[j]? = some y → (x == y) = false) ∧ ∃ n, wr = w.drewN n) (fun vi _ => len - (intOf vi).toNat)
  case atStart => exact ⟨0, rfl, by omega, by intro j y hj; omega, 0, rfl⟩
  case round =>
    obtain ⟨k, rfl, hk, hno, n, rfl⟩ := hrel
    by_cases hkl : k < len
    · obtain ⟨y, hy⟩ : ∃ y, zs[k]? = some y := ⟨zs[k]'(by rw [HL.out]; exact hkl), List.getElem?_eq_getElem _⟩
      obtain ⟨b, o, rfl, hc⟩ := hR.out k (.int .i64 y) (by simp [hy])
      have HY := Lib.hid hy
      clear hy
      have i0 : (0 : Int) ≤ (k : Int) := by omega
      have i1 : (k : Int) < (len : Int) := by omega
      cases hp : (x == y) with
      | true =>
        go_wp2_with fail
        go_ret
        exact ⟨ret_int (idxA_some HY.out (by simpa using hp) hno.out).symm, by first | exact ⟨_, rfl⟩ | exact dr2 _ _ _⟩
      | false =>
        have HP := Lib.hid hp
        go_wp2_with fail
        go_roundw
        case rel => exact ⟨k + 1, by go_num, by omega, by
          intro j z hj hz
          by_cases he : j = k
          · subst he; rw [HY.out] at hz; cases hz; exact HP.out
          · exact hno.out j z (by omega) hz, by first | exact ⟨_, rfl⟩ | exact dr2 _ _ _⟩
        case measure => simp [intOf]; omega
    · obtain rfl : k = len := by omega
      go_wp2
      go_ret
      refine ⟨ret_int (idxA_none fun z hz => ?_).symm, _, rfl⟩
      obtain ⟨j, hj⟩ := List.getElem?_of_mem hz
      have := (List.getElem?_eq_some_iff.1 hj).1
      exact hno.out j z (by have := HL.out; omega) hj
theorem contains_i64 (x : Int) (zs : List Int) (len : Nat) (ao : Option Addr) (cap : Nat) (w : World) (hlen : zs.length = len) (hl : len ≤ 9223372036854775807) (hR : Hid (Reads w ao (zs.map (Value.int .i64)))) :
    Calls Try.prog 16 #[.slice ao len cap, .int .i64 x] w fun e w' => e = .returned (.bool (decide (x ∈ zs))) ∧ ∃ n, w' = w.drewN n := by
  have C := Lib.hid (index_i64 x zs len ao cap w hlen hl hR)
  have hd : Hid (decide (0 ≤ idxA (fun y => x == y) zs) = decide (x ∈ zs)) := by
    show _ = _
    rw [idxA_nonneg]
    by_cases h : x ∈ zs
    · rw [decide_eq_true h, List.any_eq_true]
      exact ⟨x, h, by simp⟩
    · rw [decide_eq_false h, List.any_eq_false]
      intro y hy he
      have : x = y := by simpa using he
      exact h (this ▸ hy)
  clear hR hlen
  go_enter Try.func16, Try.ntmps16
  go_wp2_with (go_at_call 59; refine C.out.mono ?_; rintro e w' ⟨rfl, n, rfl⟩)
  go_ret
  exact ⟨ret_bool hd.out, _, rfl⟩
end Go.Proofs.Ythnbhhfbmkklmaa
