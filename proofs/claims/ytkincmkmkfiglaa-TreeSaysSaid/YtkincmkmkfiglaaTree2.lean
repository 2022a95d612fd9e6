/- Contracts of tree.Node and of the reference's NodeOf. -/
import Derived.Test.YtkincmkmkfiglaaRows
import Derived.Test.YtkincmkmkfiglaaTree1
namespace Go.Proofs.Ytkincmkmkfiglaa
open Go.RowKit

def nodeN (a b : Nat) : Nat := mixN ((mixN a 5 * 3 + b) % 18446744073709551616) 3
theorem nodeN_lt (a b : Nat) : nodeN a b < 18446744073709551616 := mixN_lt (Nat.mod_lt _ (by omega)) (by omega)
set_option maxRecDepth 20000 in
set_option maxHeartbeats 1000000 in
theorem tree_Node (a b : Nat) (w : World) (ha : a < 18446744073709551616) (hb : b < 18446744073709551616) :
    Calls Try.prog 44 #[.int .u64 a, .int .u64 b] w fun e w' => e = .returned (.int .u64 (nodeN a b : Nat)) ∧ w = w' := by
  have hm1 := mixN_lt ha (show 5 < 18446744073709551616 by omega)
  have H1 : Hid (Calls Try.prog 107 #[.int .u64 a, .int .u64 5] w fun e w' => e = .returned (.int .u64 (mixN a 5 : Nat)) ∧ w = w') := tree_mix a 5 w ha (by omega)
  obtain ⟨m, hm⟩ : ∃ m, mixN a 5 = m := ⟨_, rfl⟩
  rw [hm] at H1 hm1
  obtain ⟨p, hp⟩ : ∃ p, m * 3 % 18446744073709551616 = p := ⟨_, rfl⟩
  have e1 : IntKind.u64.wrap ((m : Int) * 3) = (p : Int) := by
    have := u64_wrap_nat (m * 3)
    rw [hp] at this
    exact this
  have hpb : p < 18446744073709551616 := by rw [← hp]; exact Nat.mod_lt _ (by omega)
  obtain ⟨s, hs⟩ : ∃ s, (p + b) % 18446744073709551616 = s := ⟨_, rfl⟩
  have hsb : s < 18446744073709551616 := by rw [← hs]; exact Nat.mod_lt _ (by omega)
  have e2 : IntKind.u64.wrap ((p : Int) + b) = (s : Int) := by
    have := u64_wrap_nat (p + b)
    rw [hs] at this
    exact this
  have hs2 : (m * 3 + b) % 18446744073709551616 = s := by rw [← hs, ← hp]; omega
  have H2 : Hid (Calls Try.prog 107 #[.int .u64 s, .int .u64 3] w fun e w' => e = .returned (.int .u64 (mixN s 3 : Nat)) ∧ w = w') := tree_mix s 3 w hsb (by omega)
  have hn : nodeN a b = mixN s 3 := by unfold nodeN; rw [hm, hs2]
  rw [hn]
  obtain ⟨r, hr⟩ : ∃ r, mixN s 3 = r := ⟨_, rfl⟩
  rw [hr] at H2 ⊢
  clear hm hp hs hs2 hn hr
  go_enter Try.func44, Try.ntmps44
  go_wp2_with (go_at_call 107; first | (with_reducible refine H1.out.mono ?_; rintro e w' ⟨rfl, rfl⟩) | (with_reducible refine H2.out.mono ?_; rintro e w' ⟨rfl, rfl⟩) | fail)
  go_ret
  exact ⟨rfl, rfl⟩
set_option maxRecDepth 20000 in
set_option maxHeartbeats 1000000 in
theorem ref_NodeOf (a b : Nat) (w : World) (ha : a < 18446744073709551616) (hb : b < 18446744073709551616) :
    Calls Try.prog 45 #[.int .u64 a, .int .u64 b] w fun e w' => e = .returned (.int .u64 (nodeN a b : Nat)) ∧ w = w' := by
  have hm1 := mixN_lt ha (show 5 < 18446744073709551616 by omega)
  have H1 : Hid (Calls Try.prog 108 #[.int .u64 5, .int .u64 a] w fun e w' => e = .returned (.int .u64 (mixN a 5 : Nat)) ∧ w = w') := ref_mixed 5 a w ha (by omega)
  obtain ⟨m, hm⟩ : ∃ m, mixN a 5 = m := ⟨_, rfl⟩
  rw [hm] at H1 hm1
  obtain ⟨p, hp⟩ : ∃ p, (m + m) % 18446744073709551616 = p := ⟨_, rfl⟩
  have e1 : IntKind.u64.wrap ((m : Int) + m) = (p : Int) := by
    have := u64_wrap_nat (m + m)
    rw [hp] at this
    exact this
  obtain ⟨p2, hp2⟩ : ∃ p2, (p + m) % 18446744073709551616 = p2 := ⟨_, rfl⟩
  have e12 : IntKind.u64.wrap ((p : Int) + m) = (p2 : Int) := by
    have := u64_wrap_nat (p + m)
    rw [hp2] at this
    exact this
  obtain ⟨s, hs⟩ : ∃ s, (p2 + b) % 18446744073709551616 = s := ⟨_, rfl⟩
  have hsb : s < 18446744073709551616 := by rw [← hs]; exact Nat.mod_lt _ (by omega)
  have e2 : IntKind.u64.wrap ((p2 : Int) + b) = (s : Int) := by
    have := u64_wrap_nat (p2 + b)
    rw [hs] at this
    exact this
  have hs2 : (m * 3 + b) % 18446744073709551616 = s := by rw [← hs, ← hp2, ← hp]; omega
  have H2 : Hid (Calls Try.prog 108 #[.int .u64 3, .int .u64 s] w fun e w' => e = .returned (.int .u64 (mixN s 3 : Nat)) ∧ w = w') := ref_mixed 3 s w hsb (by omega)
  have hn : nodeN a b = mixN s 3 := by unfold nodeN; rw [hm, hs2]
  rw [hn]
  obtain ⟨r, hr⟩ : ∃ r, mixN s 3 = r := ⟨_, rfl⟩
  rw [hr] at H2 ⊢
  clear hm hp hp2 hs hs2 hn hr
  go_enter Try.func45, Try.ntmps45
  go_wp2_with (go_at_call 108; first | (with_reducible refine H1.out.mono ?_; rintro e w' ⟨rfl, rfl⟩) | (with_reducible refine H2.out.mono ?_; rintro e w' ⟨rfl, rfl⟩) | fail)
  go_ret
  exact ⟨rfl, rfl⟩
end Go.Proofs.Ytkincmkmkfiglaa
