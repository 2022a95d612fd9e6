/- pair.check, pair.weight; the same look in the reference. -/
import Derived.Test.YthnbhhfbmkklmaaRows
import Derived.Test.YthnbhhfbmkklmaaPairM
import Derived.Test.YthnbhhfbmkklmaaField
import Derived.Test.YthnbhhfbmkklmaaRefField
import Derived.Test.YthnbhhfbmkklmaaArgs
import Derived.Test.YthnbhhfbmkklmaaTwo
import Derived.Deep.QuietTactic
import Derived.BigQuiet
namespace Go.Proofs.Ythnbhhfbmkklmaa
open Go.RowKit

def sAt (ss : List ByteArray) (i : Nat) : ByteArray := ss.getD i ByteArray.empty
def byteS (s : ByteArray) (k : Nat) : Nat := (s.data.toList.getD k 0).toNat
theorem byteS_lt (s : ByteArray) (k : Nat) : byteS s k < 256 := UInt8.toNat_lt _
theorem byteS_get (s : ByteArray) (k : Nat) (h : k < s.size) : s[k].toNat = byteS s k := by
  unfold byteS
  rw [List.getD_eq_getElem?_getD, List.getElem?_eq_getElem (by simpa using h)]
  simp
  rfl
def chkGo (m : Nat) : List ByteArray → Nat
  | [] => 0
  | b :: t => if 64 < b.size then 2 else if b.size ≠ m then 3 else chkGo m t
def chkP (ss : List ByteArray) : Nat := if ss.length < 1 ∨ 10 < ss.length then 2 else chkGo (sAt ss 0).size ss
theorem drop_at {ss : List ByteArray} {k : Nat} (h : k < ss.length) : ss.drop k = sAt ss k :: ss.drop (k + 1) := by
  rw [List.drop_eq_getElem_cons h]
  congr 1
  unfold sAt
  rw [List.getD_eq_getElem?_getD, List.getElem?_eq_getElem h]; rfl
theorem str_at {ss : List ByteArray} {k : Nat} (h : k < ss.length) : (ss.map Value.string)[k]? = some (.string (sAt ss k)) := by
  rw [List.getElem?_map, List.getElem?_eq_getElem h]
  unfold sAt
  rw [List.getD_eq_getElem?_getD, List.getElem?_eq_getElem h]; rfl
theorem sAt_mem {ss : List ByteArray} {k : Nat} (h : k < ss.length) : sAt ss k ∈ ss := by
  unfold sAt
  rw [List.getD_eq_getElem?_getD, List.getElem?_eq_getElem h]
  exact List.getElem_mem _
set_option maxHeartbeats 1000000 in
theorem pair_check (ss : List ByteArray) (n : Nat) (ao : Option Addr) (cap : Nat) (w : World) (h : StrsIn w ao n ss) :
    Calls Try.prog 51 #[.slice ao n cap] w fun e w' => e = .returned (.int .i64 (chkP ss : Nat)) ∧ w = w' := by
  obtain ⟨hl, hn, hs, hR⟩ := h
  have hR := Lib.hid hR
  have hs := Lib.hid hs
  by_cases h0 : n < 1
  · have e1 : decide ((n : Int) < 1) = true := by simp; omega
    have HC : Hid (chkP ss = 2) := Lib.hid (by unfold chkP; rw [if_pos (by omega)])
    go_enter Try.func51, Try.ntmps51
    go_wp2_with fail
    go_ret
    exact ⟨by rw [HC.out]; rfl, rfl⟩
  have e1 : decide ((n : Int) < 1) = false := by simp; omega
  by_cases h1 : 10 < n
  · have e2 : decide ((10 : Int) < n) = true := by simp; omega
    have HC : Hid (chkP ss = 2) := Lib.hid (by unfold chkP; rw [if_pos (by omega)])
    go_enter Try.func51, Try.ntmps51
    go_wp2_with fail
    go_ret
    exact ⟨by rw [HC.out]; rfl, rfl⟩
  have e2 : decide ((10 : Int) < n) = false := by simp; omega
  obtain ⟨m, hm⟩ : ∃ m, (sAt ss 0).size = m := ⟨_, rfl⟩
  have HC : Hid (chkP ss = chkGo m ss) := Lib.hid (by unfold chkP; rw [if_neg (by omega), hm])
  have HL := Lib.hid hl
  obtain ⟨b0, o0, rfl, c0⟩ := hR.out 0 _ (str_at (by omega))
  obtain ⟨s0, hs0⟩ : ∃ s0, sAt ss 0 = s0 := ⟨_, rfl⟩
  have hz0 := hs.out _ (sAt_mem (ss := ss) (k := 0) (by omega))
  rw [hs0] at c0 hz0 hm
  have HM := Lib.hid hm
  rw [Nat.add_zero] at c0
  clear hm hs0 hl
  have hn0 : 0 < n := by omega
  go_enter Try.func51, Try.ntmps51
  go_wp2_with fail
  go_loop [15] (fun vi => ∃ k : Nat, vi = .int .i64 k ∧ k ≤ n ∧ Hid (chkGo m (ss.drop k) = chkGo m ss)) (fun vi => n - (intOf vi).toNat)
  case atStart => exact ⟨0, rfl, by omega, Lib.hid rfl⟩
  case round =>
    obtain ⟨k, rfl, hk, hg⟩ := hrel
    by_cases hkn : k < n
    · obtain ⟨b1, o1, ha, c1⟩ := hR.out k _ (str_at (by have := HL.out; omega))
      cases ha
      have hz := hs.out _ (sAt_mem (ss := ss) (k := k) (by have := HL.out; omega))
      have hdr := drop_at (ss := ss) (k := k) (by have := HL.out; omega)
      obtain ⟨s, hs1⟩ : ∃ s, sAt ss k = s := ⟨_, rfl⟩
      rw [hs1] at c1 hz hdr
      have HD := Lib.hid hdr
      clear hs1 hdr
      by_cases h2 : 64 < s.size
      · have d1 : decide ((64 : Int) < s.size) = true := by simp; omega
        have HE : Hid (chkP ss = 2) := Lib.hid (by rw [HC.out, ← hg.out, HD.out]; simp only [chkGo]; rw [if_pos h2])
        go_wp2_with fail
        go_ret
        exact ⟨by rw [HE.out]; rfl, rfl⟩
      have d1 : decide ((64 : Int) < s.size) = false := by simp; omega
      by_cases h3 : s.size = s0.size
      · have d2 : ((s.size : Int) == (s0.size : Int)) = true := by rw [h3]; simp
        have hg2 : Hid (chkGo m (ss.drop (k + 1)) = chkGo m ss) := Lib.hid (by rw [← hg.out, HD.out]; simp only [chkGo]; rw [if_neg h2, if_neg (by rw [h3, HM.out]; simp)])
        have H3 := Lib.hid h3
        clear h3
        go_wp2_with fail
        go_round
        case rel => exact ⟨k + 1, by go_num, by omega, hg2⟩
        case measure => simp [intOf]; omega
      · have d2 : ((s.size : Int) == (s0.size : Int)) = false := by simp; omega
        have HE : Hid (chkP ss = 3) := Lib.hid (by rw [HC.out, ← hg.out, HD.out]; simp only [chkGo]; rw [if_neg h2, if_pos (by rw [← HM.out]; exact h3)])
        go_wp2_with fail
        go_ret
        exact ⟨by rw [HE.out]; rfl, rfl⟩
    · obtain rfl : k = n := by omega
      have HE : Hid (chkP ss = 0) := Lib.hid (by rw [HC.out, ← hg.out, List.drop_eq_nil_of_le (by have := HL.out; omega)]; rfl)
      go_wp2_with fail
      go_ret
      exact ⟨by rw [HE.out]; rfl, rfl⟩
theorem pair_weight (i : Nat) (w : World) (hi : i < 9223372036854775808) :
    Calls Try.prog 55 #[.int .i64 i] w fun e w' => e = .returned (.int .u8 (gpow 2 i : Nat)) ∧ w = w' := by
  have C := Lib.hid (show Calls Try.prog 92 #[.int .u8 2, .int .i64 i] w fun e w' => e = .returned (.tuple #[.int .u8 (gpow 2 i : Nat), .int .i64 0]) ∧ w = w' from field_Pow 2 i w (by omega) hi)
  go_enter Try.func55, Try.ntmps55
  go_wp2_with fail
  (with_reducible refine C.out.mono ?_)
  rintro e w' ⟨rfl, rfl⟩
  go_wp2_with fail
  go_ret
  exact ⟨rfl, rfl⟩
end Go.Proofs.Ythnbhhfbmkklmaa
