/- Contract of square.Two. -/
import Derived.Test.YtkincmkmkfiglaaRows
import Derived.Test.YtkincmkmkfiglaaSquare1
namespace Go.Proofs.Ytkincmkmkfiglaa
open Go.RowKit

theorem two_small {x n : Nat} (hn : n ≤ 1000000) (h : 2 * x * x ≤ n) : x < 1000 := by
  rcases Nat.lt_or_ge x 1000 with h1 | h1
  · exact h1
  · have : 2 * 1000 * 1000 ≤ 2 * x * x := Nat.mul_le_mul (Nat.mul_le_mul_left 2 h1) h1
    omega
theorem sum_small {x y n : Nat} (hn : n ≤ 1000000) (h : x * x + y * y ≤ n) : y ≤ 1000 := by
  rcases Nat.lt_or_ge y 1001 with h1 | h1
  · omega
  · have : 1001 * 1001 ≤ y * y := Nat.mul_le_mul h1 h1
    omega
theorem below_two {n x : Nat} (h : ¬ 2 * x * x ≤ n) (hall : ∀ u v, u < x → u ≤ v → u * u + v * v ≠ n) : NoTwo n := by
  intro u v huv
  rcases Nat.lt_or_ge u x with h1 | h1
  · exact hall u v h1 huv
  · have a1 : x * x ≤ u * u := Nat.mul_le_mul h1 h1
    have a2 : x * x ≤ v * v := Nat.mul_le_mul (by omega) (by omega)
    have a3 : 2 * x * x = 2 * (x * x) := Nat.mul_assoc _ _ _
    omega
theorem next_two {n x y : Nat} (hy : ∀ v, x ≤ v → v < y → x * x + v * v < n) (h2 : ¬ x * x + y * y < n) (h3 : ¬ x * x + y * y = n) (hall : ∀ u v, u < x → u ≤ v → u * u + v * v ≠ n) :
    ∀ u v, u < x + 1 → u ≤ v → u * u + v * v ≠ n := by
  intro u v hu huv
  rcases Nat.lt_or_ge u x with h | h
  · exact hall u v h huv
  · obtain rfl : u = x := by omega
    rcases Nat.lt_or_ge v y with h4 | h4
    · have := hy v huv h4; omega
    · have : y * y ≤ v * v := Nat.mul_le_mul h4 h4
      omega
/-- What Two answers. -/
def TwoIs (n : Nat) (X Y E : Int) : Prop := (∃ x y : Nat, X = x ∧ Y = y ∧ E = 0 ∧ IsTwo n x y) ∨ (X = 0 ∧ Y = 0 ∧ E = 4 ∧ NoTwo n)
theorem TwoIs.of {n x y : Nat} {X Y E : Int} (h : TwoIs n X Y E) (hx : x ≤ y) (he : x * x + y * y = n) (hall : ∀ u v, u < x → u ≤ v → u * u + v * v ≠ n) : X = x ∧ Y = y ∧ E = 0 := by
  rcases h with ⟨x', y', h1, h2, h3, h4⟩ | ⟨_, _, _, h4⟩
  · obtain ⟨rfl, rfl⟩ := h4.uniq ⟨hx, he, hall⟩
    exact ⟨h1, h2, h3⟩
  · exact absurd he (h4 x y hx)
theorem TwoIs.none {n : Nat} {X Y E : Int} (h : TwoIs n X Y E) (hn : NoTwo n) : X = 0 ∧ Y = 0 ∧ E = 4 := by
  rcases h with ⟨x', y', h1, h2, h3, h4⟩ | ⟨h1, h2, h3, _⟩
  · exact absurd h4.2.1 (hn x' y' h4.1)
  · exact ⟨h1, h2, h3⟩
theorem two_exists (n : Nat) : ∃ X Y E, TwoIs n X Y E := by
  by_cases h : NoTwo n
  · exact ⟨0, 0, 4, .inr ⟨rfl, rfl, rfl, h⟩⟩
  · have h1 : ∃ u v, u ≤ v ∧ u * u + v * v = n := Classical.byContradiction fun hc => h fun u v huv he => hc ⟨u, v, huv, he⟩
    have key : ∀ m, (∃ u v, u < m ∧ u ≤ v ∧ u * u + v * v = n) → ∃ x y, IsTwo n x y := by
      intro m
      induction m with
      | zero => rintro ⟨u, v, h, _⟩; omega
      | succ m ih =>
        rintro ⟨u, v, h1, h2, h3⟩
        by_cases hlt : ∃ u v, u < m ∧ u ≤ v ∧ u * u + v * v = n
        · exact ih hlt
        · have hu : u = m := by
            rcases Nat.lt_or_ge u m with h | h
            · exact absurd ⟨u, v, h, h2, h3⟩ hlt
            · omega
          subst hu
          exact ⟨u, v, h2, h3, fun a b ha hab he => hlt ⟨a, b, ha, hab, he⟩⟩
    obtain ⟨u, v, h2, h3⟩ := h1
    obtain ⟨x, y, hxy⟩ := key (u + 1) ⟨u, v, by omega, h2, h3⟩
    exact ⟨x, y, 0, .inl ⟨x, y, rfl, rfl, rfl, hxy⟩⟩
set_option maxRecDepth 20000 in
set_option maxHeartbeats 2000000 in
theorem square_Two (n : Nat) (w : World) (hn : n ≤ 1000000) (X Y E : Int) (hT : Hid (TwoIs n X Y E)) :
    Calls Try.prog 59 #[.int .i64 n] w fun e w' => e = .returned (.tuple #[.int .i64 X, .int .i64 Y, .int .i64 E]) ∧ w = w' := by
  have d0 : decide ((1000000 : Int) < n) = false := by simp; omega
  go_enter Try.func59, Try.ntmps59
  go_wp2_with fail
  go_loop [5] (fun vx => ∃ x : Nat, vx = .int .i64 x ∧ x ≤ 1000 ∧ Hid (∀ u v, u < x → u ≤ v → u * u + v * v ≠ n)) (fun vx => 1001 - (intOf vx).toNat)
  case atStart => exact ⟨0, rfl, by omega, Lib.hid (by intro u v hu; omega)⟩
  case round =>
    obtain ⟨x, rfl, hx, hall⟩ := hrel
    have hsx := sq_int x 1000 hx
    have w1 : IntKind.i64.wrap (2 * (x : Int)) = 2 * (x : Int) := IntWalk.i64_in _ (by omega)
    have e2 : 2 * (x : Int) * x = 2 * ((x : Int) * x) := Int.mul_assoc _ _ _
    have w2 : IntKind.i64.wrap (2 * (x : Int) * x) = 2 * (x : Int) * x := IntWalk.i64_in _ (by omega)
    have wx : IntKind.i64.wrap ((x : Int) * x) = (x : Int) * x := IntWalk.i64_in _ (by omega)
    clear e2
    by_cases h : 2 * x * x ≤ n
    · have d1 : decide (2 * (x : Int) * x ≤ n) = true := by simp only [decide_eq_true_eq]; exact_mod_cast h
      have hx2 := two_small hn h
      clear h
      go_wp2_with fail
      go_loop [6] (fun vy => ∃ y : Nat, vy = .int .i64 y ∧ x ≤ y ∧ y ≤ 1001 ∧ Hid (∀ v, x ≤ v → v < y → x * x + v * v < n)) (fun vy => 1002 - (intOf vy).toNat)
      case atStart => exact ⟨x, rfl, Nat.le_refl _, by omega, Lib.hid (by intro v h1 h2; omega)⟩
      case round =>
        obtain ⟨y, rfl, hxy, hy, hbel⟩ := hrel
        have hsy := sq_int y 1001 hy
        have wy : IntKind.i64.wrap ((y : Int) * y) = (y : Int) * y := IntWalk.i64_in _ (by omega)
        have wxy : IntKind.i64.wrap ((x : Int) * x + (y : Int) * y) = (x : Int) * x + (y : Int) * y := IntWalk.i64_in _ (by omega)
        by_cases h2 : x * x + y * y < n
        · have d2 : decide ((x : Int) * x + (y : Int) * y < n) = true := by simp only [decide_eq_true_eq]; exact_mod_cast h2
          have hy2 := sum_small hn (Nat.le_of_lt h2)
          have hbel2 : Hid (∀ v, x ≤ v → v < y + 1 → x * x + v * v < n) := by
            intro v h3 h4
            rcases Nat.lt_or_ge v y with h5 | h5
            · exact hbel.out v h3 h5
            · obtain rfl : v = y := by omega
              exact h2
          clear h2
          go_wp2_with fail
          go_round
          case rel => exact ⟨y + 1, by go_num, by omega, by omega, hbel2⟩
          case measure => simp [intOf]; omega
        · have d2 : decide ((x : Int) * x + (y : Int) * y < n) = false := by simp only [decide_eq_false_iff_not]; intro h3; exact h2 (by exact_mod_cast h3)
          by_cases h3 : x * x + y * y = n
          · have d3 : ((x : Int) * x + (y : Int) * y == (n : Int)) = true := by simp only [beq_iff_eq]; exact_mod_cast h3
            have hfin := Lib.hid (hT.out.of hxy h3 hall.out)
            clear h2 h3
            go_wp2_with fail
            go_ret3
            exact ⟨by rw [hfin.out.1, hfin.out.2.1, hfin.out.2.2]; rfl, rfl⟩
          · have d3 : ((x : Int) * x + (y : Int) * y == (n : Int)) = false := by simp only [beq_eq_false_iff_ne, ne_eq]; intro h4; exact h3 (by exact_mod_cast h4)
            have hall2 := Lib.hid (next_two hbel.out h2 h3 hall.out)
            clear h2 h3
            go_wp2_with fail
            go_round
            case rel => exact ⟨x + 1, by go_num, by omega, hall2⟩
            case measure => simp [intOf]; omega
    · have d1 : decide (2 * (x : Int) * x ≤ n) = false := by simp only [decide_eq_false_iff_not]; intro h3; exact h (by exact_mod_cast h3)
      have hfin := Lib.hid (hT.out.none (below_two h hall.out))
      clear h
      go_wp2_with fail
      go_ret3
      exact ⟨by rw [hfin.out.1, hfin.out.2.1, hfin.out.2.2]; rfl, rfl⟩
set_option maxRecDepth 20000 in
theorem square_Two_bad (n : Int) (w : World) (h : n < 0 ∨ 1000000 < n) :
    Calls Try.prog 59 #[.int .i64 n] w fun e w' => e = .returned (.tuple #[.int .i64 0, .int .i64 0, .int .i64 1]) ∧ w = w' := by
  by_cases h1 : n < 0
  · have d : decide (n < 0) = true := decide_eq_true h1
    go_enter Try.func59, Try.ntmps59
    go_wp2_with fail
    go_ret3
    exact ⟨rfl, rfl⟩
  · have d : decide (n < 0) = false := decide_eq_false h1
    have d2 : decide (1000000 < n) = true := by simp; omega
    go_enter Try.func59, Try.ntmps59
    go_wp2_with fail
    go_ret3
    exact ⟨rfl, rfl⟩
end Go.Proofs.Ytkincmkmkfiglaa
