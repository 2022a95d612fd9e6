/- Contracts of tree.Leaf and of the reference's LeafOf. -/
import Derived.Test.YtkincmkmkfiglaaRows
import Derived.Test.YtkincmkmkfiglaaTree1
namespace Go.Proofs.Ytkincmkmkfiglaa
open Go.RowKit

def leafStep (x c : Nat) : Nat := (x ^^^ c) * 1099511628211 % 18446744073709551616
def leafX (s : ByteArray) (k : Nat) : Nat := ((s.data.toList.take k).map UInt8.toNat).foldl leafStep s.size
def leafN (s : ByteArray) : Nat := mixN (leafX s s.size) 2
theorem take_snocS (s : ByteArray) (k : Nat) (h : k < s.size) : s.data.toList.take (k + 1) = s.data.toList.take k ++ [s[k]] := by
  rw [List.take_succ_eq_append_getElem (by simpa using h)]; rfl
theorem leafX_succ (s : ByteArray) (k : Nat) (h : k < s.size) : leafX s (k + 1) = leafStep (leafX s k) s[k].toNat := by
  unfold leafX
  rw [take_snocS s k h, List.map_append, List.foldl_append, List.map_cons, List.map_nil, List.foldl_cons, List.foldl_nil]
theorem leafStep_lt (x c : Nat) : leafStep x c < 18446744073709551616 := by unfold leafStep; exact Nat.mod_lt _ (by omega)
theorem leafX_lt (s : ByteArray) (hs : s.size < 18446744073709551616) (k : Nat) : leafX s k < 18446744073709551616 := by
  unfold leafX
  generalize (s.data.toList.take k).map UInt8.toNat = l
  generalize s.size = x at hs
  induction l generalizing x with
  | nil => exact hs
  | cons a l ih => exact ih _ (leafStep_lt x a)
theorem leafN_lt (s : ByteArray) (hs : s.size < 18446744073709551616) : leafN s < 18446744073709551616 := mixN_lt (leafX_lt s hs _) (by omega)
theorem u64_in' (x : Nat) (h : x < 18446744073709551616) : IntKind.u64.wrap (x : Int) = (x : Int) := by rw [u64_wrap_nat, Nat.mod_eq_of_lt h]
set_option maxRecDepth 20000 in
set_option maxHeartbeats 1000000 in
theorem tree_Leaf (s : ByteArray) (w : World) (hs : s.size ≤ 9223372036854775807) :
    Calls Try.prog 42 #[.string s] w fun e w' => e = .returned (.int .u64 (leafN s : Nat)) ∧ w = w' := by
  have hw := u64_in' s.size (by omega)
  go_enter Try.func42, Try.ntmps42
  go_wp2_with fail
  go_loop [3, 10] (fun vx vi => ∃ k x : Nat, k ≤ s.size ∧ vi = .int .i64 k ∧ vx = .int .u64 x ∧ Hid (x = leafX s k) ∧ x < 18446744073709551616) (fun _ vi => s.size - (intOf vi).toNat)
  case atStart => exact ⟨0, s.size, Nat.zero_le _, rfl, rfl, rfl, by omega⟩
  case round =>
    obtain ⟨k, x, hk, rfl, rfl, hx, hxb⟩ := hrel
    by_cases hlt : k < s.size
    · obtain ⟨c, hc⟩ : ∃ c, s[k].toNat = c := ⟨_, rfl⟩
      have hcb : c < 256 := by rw [← hc]; exact UInt8.toNat_lt _
      have hst : Hid (leafStep x c = leafX s (k + 1)) := by
        show _ = _
        rw [leafX_succ s k hlt, ← hx.out, hc]
      have hstb : leafStep x c < 18446744073709551616 := leafStep_lt x c
      obtain ⟨y, hy⟩ : ∃ y, x ^^^ c = y := ⟨_, rfl⟩
      obtain ⟨z, hz⟩ : ∃ z, leafStep x c = z := ⟨_, rfl⟩
      have e1 : bits .xor .u64 (x : Int) (c : Int) = (y : Int) := by rw [u64_xor_nat x c hxb (by omega), hy]
      have e2 : IntKind.u64.wrap ((y : Int) * 1099511628211) = (z : Int) := by
        have := u64_wrap_nat (y * 1099511628211)
        rw [← hz]; unfold leafStep; rw [hy]; exact this
      have e0 : IntKind.u64.wrap (c : Int) = (c : Int) := u64_in' c (by omega)
      rw [hz] at hst hstb
      rw [← hc] at e1 e0
      clear hy hz hc
      go_wp2_with fail
      go_round
      case rel => exact ⟨k + 1, z, by omega, by go_num, rfl, hst, hstb⟩
      case measure => simp [intOf]; omega
    · obtain rfl : k = s.size := by omega
      have H : Hid (Calls Try.prog 107 #[.int .u64 x, .int .u64 2] w fun e w' => e = .returned (.int .u64 (leafN s : Nat)) ∧ w = w') := by
        have := tree_mix x 2 w hxb (by omega)
        unfold leafN; rw [← hx.out]; exact this
      go_wp2_with fail
      refine H.out.mono ?_
      rintro e w' ⟨rfl, rfl⟩
      go_wp2_with fail
      go_ret
      exact ⟨rfl, rfl⟩
theorem step_ref (y : Nat) : (y * 1099511627776 % 18446744073709551616 + y * 435 % 18446744073709551616) % 18446744073709551616 = y * 1099511628211 % 18446744073709551616 := by omega
set_option maxRecDepth 20000 in
set_option maxHeartbeats 1000000 in
theorem ref_LeafOf (s : ByteArray) (w : World) (hs : s.size ≤ 9223372036854775807) :
    Calls Try.prog 43 #[.string s] w fun e w' => e = .returned (.int .u64 (leafN s : Nat)) ∧ w = w' := by
  have hw := u64_in' s.size (by omega)
  go_enter Try.func43, Try.ntmps43
  go_wp2_with fail
  go_loop [3, 10] (fun vx vi => ∃ k x : Nat, k ≤ s.size ∧ vi = .int .i64 k ∧ vx = .int .u64 x ∧ Hid (x = leafX s k) ∧ x < 18446744073709551616) (fun _ vi => s.size - (intOf vi).toNat)
  case atStart => exact ⟨0, s.size, Nat.zero_le _, rfl, rfl, rfl, by omega⟩
  case round =>
    obtain ⟨k, x, hk, rfl, rfl, hx, hxb⟩ := hrel
    by_cases hlt : k < s.size
    · obtain ⟨c, hc⟩ : ∃ c, s[k].toNat = c := ⟨_, rfl⟩
      have hcb : c < 256 := by rw [← hc]; exact UInt8.toNat_lt _
      have hst : Hid (leafStep x c = leafX s (k + 1)) := by
        show _ = _
        rw [leafX_succ s k hlt, ← hx.out, hc]
      have hstb : leafStep x c < 18446744073709551616 := leafStep_lt x c
      obtain ⟨y, hy⟩ : ∃ y, x ^^^ c = y := ⟨_, rfl⟩
      obtain ⟨z, hz⟩ : ∃ z, leafStep x c = z := ⟨_, rfl⟩
      have e1 : bits .xor .u64 (x : Int) (c : Int) = (y : Int) := by rw [u64_xor_nat x c hxb (by omega), hy]
      obtain ⟨p, hp⟩ : ∃ p, y * 1099511627776 % 18446744073709551616 = p := ⟨_, rfl⟩
      obtain ⟨q, hq⟩ : ∃ q, y * 435 % 18446744073709551616 = q := ⟨_, rfl⟩
      have e2 : IntKind.u64.wrap ((y : Int) * 1099511627776) = (p : Int) := by
        have := u64_wrap_nat (y * 1099511627776)
        rw [← hp]; exact this
      have e3 : IntKind.u64.wrap ((y : Int) * 435) = (q : Int) := by
        have := u64_wrap_nat (y * 435)
        rw [← hq]; exact this
      have e4 : IntKind.u64.wrap ((p : Int) + (q : Int)) = (z : Int) := by
        have := u64_wrap_nat (p + q)
        rw [← hz]; unfold leafStep; rw [hy, ← step_ref, hp, hq]; exact this
      have e0 : IntKind.u64.wrap (c : Int) = (c : Int) := u64_in' c (by omega)
      rw [hz] at hst hstb
      rw [← hc] at e1 e0
      clear hy hz hc hp hq
      go_wp2_with fail
      go_round
      case rel => exact ⟨k + 1, z, by omega, by go_num, rfl, hst, hstb⟩
      case measure => simp [intOf]; omega
    · obtain rfl : k = s.size := by omega
      have H : Hid (Calls Try.prog 108 #[.int .u64 2, .int .u64 x] w fun e w' => e = .returned (.int .u64 (leafN s : Nat)) ∧ w = w') := by
        have := ref_mixed 2 x w hxb (by omega)
        unfold leafN; rw [← hx.out]; exact this
      go_wp2_with fail
      refine H.out.mono ?_
      rintro e w' ⟨rfl, rfl⟩
      go_wp2_with fail
      go_ret
      exact ⟨rfl, rfl⟩
end Go.Proofs.Ytkincmkmkfiglaa
