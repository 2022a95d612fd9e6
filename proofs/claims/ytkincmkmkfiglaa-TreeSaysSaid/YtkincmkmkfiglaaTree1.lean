/- Contracts of tree.mix, Node, Leaf and of the reference's mixed, NodeOf, LeafOf. -/
import Derived.Test.YtkincmkmkfiglaaRows
import Derived.Test.YtkincmkmkfiglaaBase
import Derived.Test.YtkincmkmkfiglaaU64
namespace Go.Proofs.Ytkincmkmkfiglaa
open Go.RowKit

theorem u64_wrap_nat (x : Nat) : IntKind.u64.wrap (x : Int) = ((x % 18446744073709551616 : Nat) : Int) := by
  simp only [IntKind.wrap, IntKind.signed, IntKind.bits]
  simp
theorem xor_lt64 {a b : Nat} (ha : a < 18446744073709551616) (hb : b < 18446744073709551616) : a ^^^ b < 18446744073709551616 := Nat.xor_lt_two_pow (n := 64) ha hb
def mixN (x kind : Nat) : Nat :=
  let x1 := x ^^^ kind
  let y := (x1 ^^^ x1 / 2147483648) * 11400714819323198485 % 18446744073709551616
  y ^^^ y / 536870912
theorem mixN_lt {x kind : Nat} (hx : x < 18446744073709551616) (hk : kind < 18446744073709551616) : mixN x kind < 18446744073709551616 := by
  unfold mixN
  exact xor_lt64 (Nat.mod_lt _ (by omega)) (Nat.lt_of_le_of_lt (Nat.div_le_self _ _) (Nat.mod_lt _ (by omega)))
set_option maxRecDepth 20000 in
set_option maxHeartbeats 1000000 in
theorem tree_mix (x kind : Nat) (w : World) (hx : x < 18446744073709551616) (hk : kind < 18446744073709551616) :
    Calls Try.prog 107 #[.int .u64 x, .int .u64 kind] w fun e w' => e = .returned (.int .u64 (mixN x kind : Nat)) ∧ w = w' := by
  obtain ⟨x1, h1⟩ : ∃ x1, x ^^^ kind = x1 := ⟨_, rfl⟩
  have hx1 : x1 < 18446744073709551616 := by rw [← h1]; exact xor_lt64 hx hk
  have e1 : bits .xor .u64 (x : Int) (kind : Int) = (x1 : Int) := by rw [u64_xor_nat x kind hx hk, h1]
  obtain ⟨q, hq⟩ : ∃ q, x1 / 2147483648 = q := ⟨_, rfl⟩
  have eq1 : (x1 : Int) / 2147483648 = (q : Int) := by omega
  have hqb : q < 18446744073709551616 := by omega
  obtain ⟨z, hz⟩ : ∃ z, x1 ^^^ q = z := ⟨_, rfl⟩
  have e2 : bits .xor .u64 (x1 : Int) (q : Int) = (z : Int) := by rw [u64_xor_nat x1 q hx1 hqb, hz]
  obtain ⟨y, hy⟩ : ∃ y, z * 11400714819323198485 % 18446744073709551616 = y := ⟨_, rfl⟩
  have hyb : y < 18446744073709551616 := by rw [← hy]; exact Nat.mod_lt _ (by omega)
  have e3 : IntKind.u64.wrap ((z : Int) * 11400714819323198485) = (y : Int) := by
    have := u64_wrap_nat (z * 11400714819323198485)
    rw [hy] at this
    exact this
  obtain ⟨u, hu⟩ : ∃ u, y / 536870912 = u := ⟨_, rfl⟩
  have eu : (y : Int) / 536870912 = (u : Int) := by omega
  have hub : u < 18446744073709551616 := by omega
  obtain ⟨v, hv⟩ : ∃ v, y ^^^ u = v := ⟨_, rfl⟩
  have e4 : bits .xor .u64 (y : Int) (u : Int) = (v : Int) := by rw [u64_xor_nat y u hyb hub, hv]
  have hm : mixN x kind = v := by unfold mixN; simp only [h1, hq, hz, hy, hu, hv]
  rw [hm]
  clear h1 hq hz hy hu hv hm
  go_enter Try.func107, Try.ntmps107
  go_wp2_with fail
  go_ret
  exact ⟨rfl, rfl⟩
set_option maxRecDepth 20000 in
set_option maxHeartbeats 1000000 in
theorem ref_mixed (kind x : Nat) (w : World) (hx : x < 18446744073709551616) (hk : kind < 18446744073709551616) :
    Calls Try.prog 108 #[.int .u64 kind, .int .u64 x] w fun e w' => e = .returned (.int .u64 (mixN x kind : Nat)) ∧ w = w' := by
  obtain ⟨x1, h1⟩ : ∃ x1, x ^^^ kind = x1 := ⟨_, rfl⟩
  have hx1 : x1 < 18446744073709551616 := by rw [← h1]; exact xor_lt64 hx hk
  have e1 : bits .xor .u64 (x : Int) (kind : Int) = (x1 : Int) := by rw [u64_xor_nat x kind hx hk, h1]
  obtain ⟨q, hq⟩ : ∃ q, x1 / 2147483648 = q := ⟨_, rfl⟩
  have eq1 : (x1 : Int) / 2147483648 = (q : Int) := by omega
  have eq2 : Int.tdiv (x1 : Int) 2147483648 = (q : Int) := by rw [Int.tdiv_eq_ediv_of_nonneg (by omega), eq1]
  have hqb : q < 18446744073709551616 := by omega
  have wq : IntKind.u64.wrap (q : Int) = (q : Int) := u64_in _ (by omega) (by omega)
  obtain ⟨z, hz⟩ : ∃ z, x1 ^^^ q = z := ⟨_, rfl⟩
  have e2 : bits .xor .u64 (x1 : Int) (q : Int) = (z : Int) := by rw [u64_xor_nat x1 q hx1 hqb, hz]
  obtain ⟨y, hy⟩ : ∃ y, z * 11400714819323198485 % 18446744073709551616 = y := ⟨_, rfl⟩
  have hyb : y < 18446744073709551616 := by rw [← hy]; exact Nat.mod_lt _ (by omega)
  have e3 : IntKind.u64.wrap ((z : Int) * 11400714819323198485) = (y : Int) := by
    have := u64_wrap_nat (z * 11400714819323198485)
    rw [hy] at this
    exact this
  obtain ⟨u, hu⟩ : ∃ u, y / 536870912 = u := ⟨_, rfl⟩
  have eu : (y : Int) / 536870912 = (u : Int) := by omega
  have eu2 : Int.tdiv (y : Int) 536870912 = (u : Int) := by rw [Int.tdiv_eq_ediv_of_nonneg (by omega), eu]
  have hub : u < 18446744073709551616 := by omega
  have wu : IntKind.u64.wrap (u : Int) = (u : Int) := u64_in _ (by omega) (by omega)
  obtain ⟨v, hv⟩ : ∃ v, y ^^^ u = v := ⟨_, rfl⟩
  have e4 : bits .xor .u64 (y : Int) (u : Int) = (v : Int) := by rw [u64_xor_nat y u hyb hub, hv]
  have hm : mixN x kind = v := by unfold mixN; simp only [h1, hq, hz, hy, hu, hv]
  rw [hm]
  clear h1 hq hz hy hu hv hm
  go_enter Try.func108, Try.ntmps108
  go_wp2_with fail
  go_ret
  exact ⟨rfl, rfl⟩
end Go.Proofs.Ytkincmkmkfiglaa
