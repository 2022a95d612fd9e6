/- slices.SortFunc at fractions: the library's contract, laid at this program (printed by wip/tools/lay_g.py for one seat: the numbers are that seat's), and the two closures. -/
import Derived.Shelf.SlSortCmp.WholeK
import Derived.Test.YthnbhhfbmkklmaaRows
import Derived.Test.YthnbhhfbmkklmaaFormK
namespace Go.Proofs.Ythnbhhfbmkklmaa
open Go.Sort Go.RowKit

def sortQ_ren : Go.Shelf.Ren := ⟨fun | 6 => 45 | 15 => 90 | 14 => 89 | 28 => 125 | 29 => 126 | 20 => 117 | 21 => 118 | 22 => 119 | 23 => 120 | 24 => 121 | 25 => 122 | 26 => 123 | 27 => 124 | 46 => 138 | 47 => 139 | 48 => 140 | 49 => 141 | 50 => 142 | 57 => 147 | n => n, fun | 22 => 27 | 24 => 23 | 25 => 96 | 3 => 3 | 39 => 119 | 0 => 0 | 53 => 46 | 55 => 188 | 4 => 4 | 46 => 180 | 45 => 179 | 50 => 184 | 5 => 5 | 9 => 9 | 66 => 202 | 70 => 206 | 76 => 213 | 77 => 214 | n => n, fun | n => n⟩
theorem sortQ : Go.Proofs.SlLaysF0.n6 Try.prog sortQ_ren := {
  mixed := by kernel_rfl
  f6 := ⟨Try.f45.name, by decide, Try.func45.trans (congrArg some (by kernel_rfl))⟩
  f14 := ⟨Try.f89.name, by decide, Try.func89.trans (congrArg some (by kernel_rfl))⟩
  f15 := Try.func90.trans (congrArg some (by kernel_rfl))
  f20 := ⟨Try.f117.name, by decide, Try.func117.trans (congrArg some (by kernel_rfl))⟩
  f21 := ⟨Try.f118.name, by decide, Try.func118.trans (congrArg some (by kernel_rfl))⟩
  f22 := ⟨Try.f119.name, by decide, Try.func119.trans (congrArg some (by kernel_rfl))⟩
  f23 := ⟨Try.f120.name, by decide, Try.func120.trans (congrArg some (by kernel_rfl))⟩
  f24 := ⟨Try.f121.name, by decide, Try.func121.trans (congrArg some (by kernel_rfl))⟩
  f25 := ⟨Try.f122.name, by decide, Try.func122.trans (congrArg some (by kernel_rfl))⟩
  f26 := ⟨Try.f123.name, by decide, Try.func123.trans (congrArg some (by kernel_rfl))⟩
  f27 := ⟨Try.f124.name, by decide, Try.func124.trans (congrArg some (by kernel_rfl))⟩
  f28 := Try.func125.trans (congrArg some (by kernel_rfl))
  f29 := Try.func126.trans (congrArg some (by kernel_rfl))
  f46 := ⟨Try.f138.name, by decide, Try.func138.trans (congrArg some (by kernel_rfl))⟩
  f47 := Try.func139.trans (congrArg some (by kernel_rfl))
  f48 := Try.func140.trans (congrArg some (by kernel_rfl))
  f49 := ⟨Try.f141.name, by decide, Try.func141.trans (congrArg some (by kernel_rfl))⟩
  f50 := ⟨Try.f142.name, by decide, Try.func142.trans (congrArg some (by kernel_rfl))⟩
  f57 := ⟨Try.f147.name, by decide, Try.func147.trans (congrArg some (by kernel_rfl))⟩
  t0 := Try.underlying0
  a0 := Try.isAgg0
  z0 := Try.sizeOf0
  v0 := Try.zeroValue0
  t3 := Try.underlying3
  a3 := Try.isAgg3
  z3 := Try.sizeOf3
  v3 := Try.zeroValue3
  t4 := Try.underlying4
  a4 := Try.isAgg4
  z4 := Try.sizeOf4
  v4 := Try.zeroValue4
  t5 := Try.underlying5
  a5 := Try.isAgg5
  z5 := Try.sizeOf5
  v5 := Try.zeroValue5
  t9 := Try.underlying9
  a9 := Try.isAgg9
  z9 := Try.sizeOf9
  v9 := Try.zeroValue9
  t22 := Try.underlying27
  a22 := Try.isAgg27
  z22 := Try.sizeOf27
  v22 := Try.zeroValue27
  t25 := Try.underlying96
  a25 := Try.isAgg96
  z25 := Try.sizeOf96
  v25 := Try.zeroValue96
  t39 := Try.underlying119
  a39 := Try.isAgg119
  z39 := Try.sizeOf119
  v39 := Try.zeroValue119
  t45 := Try.underlying179
  a45 := Try.isAgg179
  z45 := Try.sizeOf179
  v45 := Try.zeroValue179
  t46 := Try.underlying180
  a46 := Try.isAgg180
  z46 := Try.sizeOf180
  v46 := Try.zeroValue180
  t50 := Try.underlying184
  a50 := Try.isAgg184
  z50 := Try.sizeOf184
  v50 := Try.zeroValue184
  t53 := Try.underlying46
  a53 := Try.isAgg46
  z53 := Try.sizeOf46
  v53 := Try.zeroValue46
  t55 := Try.underlying188
  a55 := Try.isAgg188
  z55 := Try.sizeOf188
  v55 := Try.zeroValue188
  t66 := Try.underlying202
  a66 := Try.isAgg202
  z66 := Try.sizeOf202
  v66 := Try.zeroValue202
  t70 := Try.underlying206
  a70 := Try.isAgg206
  z70 := Try.sizeOf206
  v70 := Try.zeroValue206
  t76 := Try.underlying213
  a76 := Try.isAgg213
  z76 := Try.sizeOf213
  v76 := Try.zeroValue213
  t77 := Try.underlying214
  a77 := Try.isAgg214
  z77 := Try.sizeOf214
  v77 := Try.zeroValue214 }

/-- A fraction of FAREY's: small. -/
abbrev QF : Type := { x : Nat × Nat // 1 ≤ x.2 ∧ x.2 ≤ 30 ∧ x.1 ≤ 30 }
def encQ (x : QF) : List Value := [.int .i64 x.1.1, .int .i64 x.1.2]
def cfQ (x y : QF) : Int := (x.1.1 : Int) * (y.1.2 : Int) - (y.1.1 : Int) * (x.1.2 : Int)
theorem ltQ (x y : QF) : ltOf cfQ x y = decide (x.1.1 * y.1.2 < y.1.1 * x.1.2) := by
  unfold ltOf cfQ
  rw [← Int.natCast_mul, ← Int.natCast_mul]
  apply decide_eq_decide.2
  omega
theorem swoQ : SWO (ltOf cfQ) where
  irrefl x := by rw [ltQ]; simp
  trans x y z h1 h2 := by
    rw [ltQ] at *
    have h1 := of_decide_eq_true h1
    have h2 := of_decide_eq_true h2
    apply decide_eq_true
    have a1 := Nat.mul_lt_mul_of_pos_right h1 z.2.1
    have a2 := Nat.mul_lt_mul_of_pos_right h2 x.2.1
    refine Nat.lt_of_mul_lt_mul_right (a := y.1.2) ?_
    calc x.1.1 * z.1.2 * y.1.2 = x.1.1 * y.1.2 * z.1.2 := Nat.mul_right_comm _ _ _
      _ < y.1.1 * x.1.2 * z.1.2 := a1
      _ = y.1.1 * z.1.2 * x.1.2 := Nat.mul_right_comm _ _ _
      _ < z.1.1 * y.1.2 * x.1.2 := a2
      _ = z.1.1 * x.1.2 * y.1.2 := Nat.mul_right_comm _ _ _
  ntrans x y z h1 h2 := by
    rw [ltQ] at *
    have h1 := Nat.not_lt.1 (of_decide_eq_false h1)
    have h2 := Nat.not_lt.1 (of_decide_eq_false h2)
    apply decide_eq_false
    apply Nat.not_lt.2
    have a1 := Nat.mul_le_mul_right z.1.2 h1
    have a2 := Nat.mul_le_mul_right x.1.2 h2
    refine Nat.le_of_mul_le_mul_right (c := y.1.2) ?_ y.2.1
    calc z.1.1 * x.1.2 * y.1.2 = z.1.1 * y.1.2 * x.1.2 := Nat.mul_right_comm _ _ _
      _ ≤ y.1.1 * z.1.2 * x.1.2 := a2
      _ = y.1.1 * x.1.2 * z.1.2 := Nat.mul_right_comm _ _ _
      _ ≤ x.1.1 * y.1.2 * z.1.2 := a1
      _ = x.1.1 * z.1.2 * y.1.2 := Nat.mul_right_comm _ _ _
theorem mulQ {a b : Nat} (ha : a ≤ 30) (hb : b ≤ 30) : a * b ≤ 900 := Nat.mul_le_mul ha hb
set_option maxRecDepth 20000 in
set_option maxHeartbeats 1000000 in
theorem farey1 (x y : QF) (W : World) : Calls Try.prog 46 #[.agg #[.int .i64 x.1.1, .int .i64 x.1.2], .agg #[.int .i64 y.1.1, .int .i64 y.1.2]] W fun e w' => e = .returned (.int .i64 (cfQ x y)) ∧ ∃ q os, w' = grow (W.drewN q) os := by
  obtain ⟨⟨a, b⟩, b1, b30, a30⟩ := x
  obtain ⟨⟨c, d⟩, d1, d30, c30⟩ := y
  unfold cfQ
  simp only at b1 b30 a30 d1 d30 c30 ⊢
  have m1 := mulQ a30 d30
  have m2 := mulQ c30 b30
  have w1 : IntKind.i64.wrap ((a : Int) * (d : Int)) = (a : Int) * (d : Int) := by rw [← Int.natCast_mul]; exact IntWalk.i64_in _ (by omega)
  have w2 : IntKind.i64.wrap ((c : Int) * (b : Int)) = (c : Int) * (b : Int) := by rw [← Int.natCast_mul]; exact IntWalk.i64_in _ (by omega)
  have w3 : IntKind.i64.wrap ((a : Int) * (d : Int) - (c : Int) * (b : Int)) = (a : Int) * (d : Int) - (c : Int) * (b : Int) := by rw [← Int.natCast_mul, ← Int.natCast_mul]; exact IntWalk.i64_in _ (by omega)
  clear m1 m2 a30 b30 c30 d30 b1 d1
  go_enter Try.func46, Try.ntmps46
  go_wp2_with fail
  go_ret
  exact ⟨rfl, 0, _, by rw [alloc_eq_grow, alloc_eq_grow, grow_grow]; rfl⟩
set_option maxRecDepth 20000 in
set_option maxHeartbeats 1000000 in
theorem fareyOf1 (x y : QF) (W : World) : Calls Try.prog 49 #[.agg #[.int .i64 x.1.1, .int .i64 x.1.2], .agg #[.int .i64 y.1.1, .int .i64 y.1.2]] W fun e w' => e = .returned (.int .i64 (cfQ x y)) ∧ ∃ q os, w' = grow (W.drewN q) os := by
  obtain ⟨⟨a, b⟩, b1, b30, a30⟩ := x
  obtain ⟨⟨c, d⟩, d1, d30, c30⟩ := y
  unfold cfQ
  simp only at b1 b30 a30 d1 d30 c30 ⊢
  have m1 := mulQ a30 d30
  have m2 := mulQ c30 b30
  have w1 : IntKind.i64.wrap ((a : Int) * (d : Int)) = (a : Int) * (d : Int) := by rw [← Int.natCast_mul]; exact IntWalk.i64_in _ (by omega)
  have w2 : IntKind.i64.wrap ((c : Int) * (b : Int)) = (c : Int) * (b : Int) := by rw [← Int.natCast_mul]; exact IntWalk.i64_in _ (by omega)
  have w3 : IntKind.i64.wrap ((a : Int) * (d : Int) - (c : Int) * (b : Int)) = (a : Int) * (d : Int) - (c : Int) * (b : Int) := by rw [← Int.natCast_mul, ← Int.natCast_mul]; exact IntWalk.i64_in _ (by omega)
  clear m1 m2 a30 b30 c30 d30 b1 d1
  go_enter Try.func49, Try.ntmps49
  go_wp2_with fail
  go_ret
  exact ⟨rfl, 0, _, by rw [alloc_eq_grow, alloc_eq_grow, grow_grow]; rfl⟩
end Go.Proofs.Ythnbhhfbmkklmaa
