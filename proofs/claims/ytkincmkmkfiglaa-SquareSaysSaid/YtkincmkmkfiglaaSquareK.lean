/- SquareSays: for arbitrary numbers, all functions of package square answer what the reference answers. Conditions: none. -/
import Derived.Test.YtkincmkmkfiglaaRows
import Derived.Test.YtkincmkmkfiglaaSquare2
import Derived.Test.YtkincmkmkfiglaaSquare3
import Derived.Test.YtkincmkmkfiglaaSquare4
namespace Go.Proofs.Ytkincmkmkfiglaa
open Go.RowKit

theorem next_two' {n x y : Nat} (hy : ∀ v, x ≤ v → v < y → x * x + v * v ≠ n) (h2 : ¬ x * x + y * y ≤ n) (hall : ∀ u v, u < x → u ≤ v → u * u + v * v ≠ n) :
    ∀ u v, u < x + 1 → u ≤ v → u * u + v * v ≠ n := by
  intro u v hu huv
  rcases Nat.lt_or_ge u x with h | h
  · exact hall u v h huv
  · obtain rfl : u = x := by omega
    rcases Nat.lt_or_ge v y with h4 | h4
    · exact hy v huv h4
    · have : y * y ≤ v * v := Nat.mul_le_mul h4 h4
      omega
theorem square_Root_bad' (a p : Int) (w : World) (h : p < 2 ∨ 1000000 < p ∨ ¬ IsPr p.toNat) :
    Calls Try.prog 58 #[.int .i64 a, .int .i64 p] w fun e w' => e = .returned (.tuple #[.int .i64 0, .int .i64 1]) ∧ ∃ m, w' = w.drewN m :=
  (square_Root_bad a p w h).mono fun e w' hh => ⟨hh.1, 0, hh.2.symm⟩
set_option maxRecDepth 20000 in
theorem square_Symbol_bad (a n : Int) (w : World) (h : n < 1 ∨ 1000000 < n ∨ n % 2 = 0) :
    Calls Try.prog 57 #[.int .i64 a, .int .i64 n] w fun e w' => e = .returned (.tuple #[.int .i64 0, .int .i64 1]) ∧ Below w.heap.size w w' := by
  by_cases h1 : n < 1
  · have d : decide (n < 1) = true := decide_eq_true h1
    go_enter Try.func57, Try.ntmps57
    go_wp2_with fail
    go_ret2
    exact ⟨rfl, Below.refl _ _⟩
  · have d : decide (n < 1) = false := decide_eq_false h1
    by_cases h2 : 1000000 < n
    · have d2 : decide (1000000 < n) = true := decide_eq_true h2
      go_enter Try.func57, Try.ntmps57
      go_wp2_with fail
      go_ret2
      exact ⟨rfl, Below.refl _ _⟩
    · have d2 : decide (1000000 < n) = false := decide_eq_false h2
      obtain ⟨m, rfl⟩ : ∃ m : Nat, n = m := ⟨n.toNat, by omega⟩
      have d3 : ((m : Int) % 2 == 0) = true := by simp only [beq_iff_eq]; omega
      go_enter Try.func57, Try.ntmps57
      go_wp2_with fail
      go_ret2
      exact ⟨rfl, Below.refl _ _⟩

set_option maxRecDepth 100000 in
set_option maxHeartbeats 8000000 in
theorem squareSays_neg (a : Int) (n : Int) (p : Int) (w : World) (ha : -9223372036854775808 ≤ a) (ha' : a ≤ 9223372036854775807) (h : n < 0) :
    Calls Try.prog 9 #[.int .i64 a, .int .i64 n, .int .i64 p] w fun e w' => e = .returned (.bool true) ∧ Below w.heap.size w w' := by
  have f0 : decide (n < 1) = true := by simp; omega
  have f1 : decide (n < 0) = true := by simp; omega
  have HS := Lib.hid (square_Symbol_bad a n w (by omega))
  have HT := Lib.hid (fun W => square_Two_bad n W (by omega))
  by_cases hp1 : p < 2
  · have d1 : decide (p < 2) = true := decide_eq_true hp1
    have HR := Lib.hid (fun W => square_Root_bad' a p W (.inl hp1))
    go_enter Try.func9, Try.ntmps9
    go_wp2_with (first | (go_at_call 57; refine HS.out.mono ?_; rintro e1 w1 ⟨rfl, hb1⟩; have HB1 := Lib.hid hb1; clear hb1 HS) | (go_at_call 58; refine (HR.out _).mono ?_; rintro e1 w' ⟨rfl, q1, rfl⟩) | (go_at_call 59; refine (HT.out _).mono ?_; rintro e1 w' ⟨rfl, rfl⟩) | (go_at_call 60; refine (HSO.out _).mono ?_; rintro e1 w' ⟨rfl, q2, rfl⟩) | (go_at_call 50; refine (HPR.out _).mono ?_; rintro e1 w' ⟨rfl, rfl⟩) | (go_at_call 61; refine (HRO.out _).mono ?_; rintro e1 w' ⟨rfl, q3, rfl⟩))
    go_ret
    exact ⟨by simp, (by repeat (first | exact HB1.out | apply below_drewN))⟩
  · have d1 : decide (p < 2) = false := decide_eq_false hp1
    by_cases hp2 : 1000000 < p
    · have d2 : decide (1000000 < p) = true := decide_eq_true hp2
      have HR := Lib.hid (fun W => square_Root_bad' a p W (.inr (.inl hp2)))
      go_enter Try.func9, Try.ntmps9
      go_wp2_with (first | (go_at_call 57; refine HS.out.mono ?_; rintro e1 w1 ⟨rfl, hb1⟩; have HB1 := Lib.hid hb1; clear hb1 HS) | (go_at_call 58; refine (HR.out _).mono ?_; rintro e1 w' ⟨rfl, q1, rfl⟩) | (go_at_call 59; refine (HT.out _).mono ?_; rintro e1 w' ⟨rfl, rfl⟩) | (go_at_call 60; refine (HSO.out _).mono ?_; rintro e1 w' ⟨rfl, q2, rfl⟩) | (go_at_call 50; refine (HPR.out _).mono ?_; rintro e1 w' ⟨rfl, rfl⟩) | (go_at_call 61; refine (HRO.out _).mono ?_; rintro e1 w' ⟨rfl, q3, rfl⟩))
      go_ret
      exact ⟨by simp, (by repeat (first | exact HB1.out | apply below_drewN))⟩
    · have d2 : decide (1000000 < p) = false := decide_eq_false hp2
      obtain ⟨P, rfl⟩ : ∃ P : Nat, p = P := ⟨p.toNat, by omega⟩
      have hPn : P ≤ 1000000 := by omega
      have HPR := Lib.hid (fun W => ref_Prime P W hPn)
      by_cases hpr : IsPr P
      · rw [prB_true hpr] at HPR
        rcases root_cases a P with ⟨x, hx⟩ | hx
        · have HR := Lib.hid (fun W => square_Root a P W ha ha' hpr hPn x 0 (Lib.hid (.inl ⟨x, rfl, rfl, hx⟩)))
          have HRO := Lib.hid (fun W => ref_RootOf a P W ha ha' (by omega) hPn x (Lib.hid (.inl ⟨x, rfl, hx⟩)))
          have dx : decide ((x : Int) < 0) = false := by simp <;> omega
          clear hx hpr
          go_enter Try.func9, Try.ntmps9
          go_wp2_with (first | (go_at_call 57; refine HS.out.mono ?_; rintro e1 w1 ⟨rfl, hb1⟩; have HB1 := Lib.hid hb1; clear hb1 HS) | (go_at_call 58; refine (HR.out _).mono ?_; rintro e1 w' ⟨rfl, q1, rfl⟩) | (go_at_call 59; refine (HT.out _).mono ?_; rintro e1 w' ⟨rfl, rfl⟩) | (go_at_call 60; refine (HSO.out _).mono ?_; rintro e1 w' ⟨rfl, q2, rfl⟩) | (go_at_call 50; refine (HPR.out _).mono ?_; rintro e1 w' ⟨rfl, rfl⟩) | (go_at_call 61; refine (HRO.out _).mono ?_; rintro e1 w' ⟨rfl, q3, rfl⟩))
          go_ret
          exact ⟨by simp, (by repeat (first | exact HB1.out | apply below_drewN))⟩
        · have HR := Lib.hid (fun W => square_Root a P W ha ha' hpr hPn 0 4 (Lib.hid (.inr ⟨rfl, rfl, hx⟩)))
          have HRO := Lib.hid (fun W => ref_RootOf a P W ha ha' (by omega) hPn (-1) (Lib.hid (.inr ⟨rfl, hx⟩)))
          clear hx hpr
          go_enter Try.func9, Try.ntmps9
          go_wp2_with (first | (go_at_call 57; refine HS.out.mono ?_; rintro e1 w1 ⟨rfl, hb1⟩; have HB1 := Lib.hid hb1; clear hb1 HS) | (go_at_call 58; refine (HR.out _).mono ?_; rintro e1 w' ⟨rfl, q1, rfl⟩) | (go_at_call 59; refine (HT.out _).mono ?_; rintro e1 w' ⟨rfl, rfl⟩) | (go_at_call 60; refine (HSO.out _).mono ?_; rintro e1 w' ⟨rfl, q2, rfl⟩) | (go_at_call 50; refine (HPR.out _).mono ?_; rintro e1 w' ⟨rfl, rfl⟩) | (go_at_call 61; refine (HRO.out _).mono ?_; rintro e1 w' ⟨rfl, q3, rfl⟩))
          go_ret
          exact ⟨by simp, (by repeat (first | exact HB1.out | apply below_drewN))⟩
      · rw [prB_false hpr] at HPR
        have HR := Lib.hid (fun W => square_Root_bad' a P W (.inr (.inr (by simpa using hpr))))
        clear hpr
        go_enter Try.func9, Try.ntmps9
        go_wp2_with (first | (go_at_call 57; refine HS.out.mono ?_; rintro e1 w1 ⟨rfl, hb1⟩; have HB1 := Lib.hid hb1; clear hb1 HS) | (go_at_call 58; refine (HR.out _).mono ?_; rintro e1 w' ⟨rfl, q1, rfl⟩) | (go_at_call 59; refine (HT.out _).mono ?_; rintro e1 w' ⟨rfl, rfl⟩) | (go_at_call 60; refine (HSO.out _).mono ?_; rintro e1 w' ⟨rfl, q2, rfl⟩) | (go_at_call 50; refine (HPR.out _).mono ?_; rintro e1 w' ⟨rfl, rfl⟩) | (go_at_call 61; refine (HRO.out _).mono ?_; rintro e1 w' ⟨rfl, q3, rfl⟩))
        go_ret
        exact ⟨by simp, (by repeat (first | exact HB1.out | apply below_drewN))⟩

set_option maxRecDepth 100000 in
set_option maxHeartbeats 8000000 in
theorem squareSays_nul (a : Int) (n : Nat) (p : Int) (w : World) (ha : -9223372036854775808 ≤ a) (ha' : a ≤ 9223372036854775807) (h2 : n < 1) :
    Calls Try.prog 9 #[.int .i64 a, .int .i64 n, .int .i64 p] w fun e w' => e = .returned (.bool true) ∧ Below w.heap.size w w' := by
  have f0 : decide ((n : Int) < 1) = true := by simp; omega
  have f1 : decide ((1000000 : Int) < n) = false := by simp; omega
  have HS := Lib.hid (square_Symbol_bad a n w (by omega))
  obtain ⟨X, Y, E3, hti⟩ := two_exists n
  have HTI := Lib.hid hti
  have HT := Lib.hid (fun W => square_Two n W (by omega) X Y E3 HTI)
  have HN : Hid (n ≤ 1000000) := Lib.hid (by omega)
  clear hti
  clear h2
  by_cases hp1 : p < 2
  · have d1 : decide (p < 2) = true := decide_eq_true hp1
    have HR := Lib.hid (fun W => square_Root_bad' a p W (.inl hp1))
    go_enter Try.func9, Try.ntmps9
    go_wp2_with (first | (go_at_call 57; refine HS.out.mono ?_; rintro e1 w1 ⟨rfl, hb1⟩; have HB1 := Lib.hid hb1; clear hb1 HS) | (go_at_call 58; refine (HR.out _).mono ?_; rintro e1 w' ⟨rfl, q1, rfl⟩) | (go_at_call 59; refine (HT.out _).mono ?_; rintro e1 w' ⟨rfl, rfl⟩) | (go_at_call 60; refine (HSO.out _).mono ?_; rintro e1 w' ⟨rfl, q2, rfl⟩) | (go_at_call 50; refine (HPR.out _).mono ?_; rintro e1 w' ⟨rfl, rfl⟩) | (go_at_call 61; refine (HRO.out _).mono ?_; rintro e1 w' ⟨rfl, q3, rfl⟩))
    go_loop [15] (fun vx => ∃ x : Nat, vx = .int .i64 x ∧ x ≤ 1000 ∧ Hid (∀ u v, u < x → u ≤ v → u * u + v * v ≠ n)) (fun vx => 1001 - (intOf vx).toNat)
    case atStart => exact ⟨0, rfl, by omega, Lib.hid (by intro u v hu; omega)⟩
    case round =>
      obtain ⟨x, rfl, hx, hall⟩ := hrel
      have hsx := sq_int x 1000 hx
      have w1 : IntKind.i64.wrap (2 * (x : Int)) = 2 * (x : Int) := IntWalk.i64_in _ (by omega)
      have e2 : 2 * (x : Int) * x = 2 * ((x : Int) * x) := Int.mul_assoc _ _ _
      have w2 : IntKind.i64.wrap (2 * (x : Int) * x) = 2 * (x : Int) * x := IntWalk.i64_in _ (by omega)
      have wx : IntKind.i64.wrap ((x : Int) * x) = (x : Int) * x := IntWalk.i64_in _ (by omega)
      clear e2
      by_cases h : 2 * x * x ≤ n
      · have d1 : decide (2 * (x : Int) * x ≤ (n : Nat)) = true := by simp only [decide_eq_true_eq]; exact_mod_cast h
        have hx2 := two_small HN.out h
        clear h
        go_wp2_with fail
        go_loop [16] (fun vy => ∃ y : Nat, vy = .int .i64 y ∧ x ≤ y ∧ y ≤ 1001 ∧ Hid (∀ v, x ≤ v → v < y → x * x + v * v ≠ n)) (fun vy => 1002 - (intOf vy).toNat)
        case atStart => exact ⟨x, rfl, Nat.le_refl _, by omega, Lib.hid (by intro v h1 h2; omega)⟩
        case round =>
          obtain ⟨y, rfl, hxy, hy, hbel⟩ := hrel
          have hsy := sq_int y 1001 hy
          have wy : IntKind.i64.wrap ((y : Int) * y) = (y : Int) * y := IntWalk.i64_in _ (by omega)
          have wxy : IntKind.i64.wrap ((x : Int) * x + (y : Int) * y) = (x : Int) * x + (y : Int) * y := IntWalk.i64_in _ (by omega)
          by_cases h2 : x * x + y * y ≤ n
          · have d2 : decide ((x : Int) * x + (y : Int) * y ≤ (n : Nat)) = true := by simp only [decide_eq_true_eq]; exact_mod_cast h2
            have hy2 := sum_small HN.out h2
            by_cases h3 : x * x + y * y = n
            · have d3 : ((x : Int) * x + (y : Int) * y == ((n : Nat) : Int)) = true := by simp only [beq_iff_eq]; exact_mod_cast h3
              obtain ⟨f1, f2, f3⟩ := HTI.out.of hxy h3 hall.out
              have g1 : (X == (x : Int)) = true := by simpa using f1
              have g2 : (Y == (y : Int)) = true := by simpa using f2
              have g3 : (E3 == 0) = true := by simpa using f3
              clear h2 h3 f1 f2 f3
              go_wp2_with fail
              go_ret
              exact ⟨by simp, (by repeat (first | exact HB1.out | apply below_drewN))⟩
            · have d3 : ((x : Int) * x + (y : Int) * y == ((n : Nat) : Int)) = false := by simp only [beq_eq_false_iff_ne, ne_eq]; intro h4; exact h3 (by exact_mod_cast h4)
              have hbel2 : Hid (∀ v, x ≤ v → v < y + 1 → x * x + v * v ≠ n) := by
                intro v h4 h5
                rcases Nat.lt_or_ge v y with h6 | h6
                · exact hbel.out v h4 h6
                · obtain rfl : v = y := by omega
                  exact h3
              clear h2 h3
              go_wp2_with fail
              go_round
              case rel => exact ⟨y + 1, by go_num, by omega, by omega, hbel2⟩
              case measure => simp [intOf]; omega
          · have d2 : decide ((x : Int) * x + (y : Int) * y ≤ (n : Nat)) = false := by simp only [decide_eq_false_iff_not]; intro h3; exact h2 (by exact_mod_cast h3)
            have hall2 := Lib.hid (next_two' hbel.out h2 hall.out)
            clear h2
            go_wp2_with fail
            go_round
            case rel => exact ⟨x + 1, by go_num, by omega, hall2⟩
            case measure => simp [intOf]; omega
      · have d1 : decide (2 * (x : Int) * x ≤ (n : Nat)) = false := by simp only [decide_eq_false_iff_not]; intro h3; exact h (by exact_mod_cast h3)
        obtain ⟨f1, f2, f3⟩ := HTI.out.none (below_two h hall.out)
        have g1 : (X == 0) = true := by simpa using f1
        have g2 : (Y == 0) = true := by simpa using f2
        have g3 : (E3 == 4) = true := by simpa using f3
        clear h f1 f2 f3
        go_wp2_with fail
        go_ret
        exact ⟨by simp, (by repeat (first | exact HB1.out | apply below_drewN))⟩
  · have d1 : decide (p < 2) = false := decide_eq_false hp1
    by_cases hp2 : 1000000 < p
    · have d2 : decide (1000000 < p) = true := decide_eq_true hp2
      have HR := Lib.hid (fun W => square_Root_bad' a p W (.inr (.inl hp2)))
      go_enter Try.func9, Try.ntmps9
      go_wp2_with (first | (go_at_call 57; refine HS.out.mono ?_; rintro e1 w1 ⟨rfl, hb1⟩; have HB1 := Lib.hid hb1; clear hb1 HS) | (go_at_call 58; refine (HR.out _).mono ?_; rintro e1 w' ⟨rfl, q1, rfl⟩) | (go_at_call 59; refine (HT.out _).mono ?_; rintro e1 w' ⟨rfl, rfl⟩) | (go_at_call 60; refine (HSO.out _).mono ?_; rintro e1 w' ⟨rfl, q2, rfl⟩) | (go_at_call 50; refine (HPR.out _).mono ?_; rintro e1 w' ⟨rfl, rfl⟩) | (go_at_call 61; refine (HRO.out _).mono ?_; rintro e1 w' ⟨rfl, q3, rfl⟩))
      go_loop [15] (fun vx => ∃ x : Nat, vx = .int .i64 x ∧ x ≤ 1000 ∧ Hid (∀ u v, u < x → u ≤ v → u * u + v * v ≠ n)) (fun vx => 1001 - (intOf vx).toNat)
      case atStart => exact ⟨0, rfl, by omega, Lib.hid (by intro u v hu; omega)⟩
      case round =>
        obtain ⟨x, rfl, hx, hall⟩ := hrel
        have hsx := sq_int x 1000 hx
        have w1 : IntKind.i64.wrap (2 * (x : Int)) = 2 * (x : Int) := IntWalk.i64_in _ (by omega)
        have e2 : 2 * (x : Int) * x = 2 * ((x : Int) * x) := Int.mul_assoc _ _ _
        have w2 : IntKind.i64.wrap (2 * (x : Int) * x) = 2 * (x : Int) * x := IntWalk.i64_in _ (by omega)
        have wx : IntKind.i64.wrap ((x : Int) * x) = (x : Int) * x := IntWalk.i64_in _ (by omega)
        clear e2
        by_cases h : 2 * x * x ≤ n
        · have d1 : decide (2 * (x : Int) * x ≤ (n : Nat)) = true := by simp only [decide_eq_true_eq]; exact_mod_cast h
          have hx2 := two_small HN.out h
          clear h
          go_wp2_with fail
          go_loop [16] (fun vy => ∃ y : Nat, vy = .int .i64 y ∧ x ≤ y ∧ y ≤ 1001 ∧ Hid (∀ v, x ≤ v → v < y → x * x + v * v ≠ n)) (fun vy => 1002 - (intOf vy).toNat)
          case atStart => exact ⟨x, rfl, Nat.le_refl _, by omega, Lib.hid (by intro v h1 h2; omega)⟩
          case round =>
            obtain ⟨y, rfl, hxy, hy, hbel⟩ := hrel
            have hsy := sq_int y 1001 hy
            have wy : IntKind.i64.wrap ((y : Int) * y) = (y : Int) * y := IntWalk.i64_in _ (by omega)
            have wxy : IntKind.i64.wrap ((x : Int) * x + (y : Int) * y) = (x : Int) * x + (y : Int) * y := IntWalk.i64_in _ (by omega)
            by_cases h2 : x * x + y * y ≤ n
            · have d2 : decide ((x : Int) * x + (y : Int) * y ≤ (n : Nat)) = true := by simp only [decide_eq_true_eq]; exact_mod_cast h2
              have hy2 := sum_small HN.out h2
              by_cases h3 : x * x + y * y = n
              · have d3 : ((x : Int) * x + (y : Int) * y == ((n : Nat) : Int)) = true := by simp only [beq_iff_eq]; exact_mod_cast h3
                obtain ⟨f1, f2, f3⟩ := HTI.out.of hxy h3 hall.out
                have g1 : (X == (x : Int)) = true := by simpa using f1
                have g2 : (Y == (y : Int)) = true := by simpa using f2
                have g3 : (E3 == 0) = true := by simpa using f3
                clear h2 h3 f1 f2 f3
                go_wp2_with fail
                go_ret
                exact ⟨by simp, (by repeat (first | exact HB1.out | apply below_drewN))⟩
              · have d3 : ((x : Int) * x + (y : Int) * y == ((n : Nat) : Int)) = false := by simp only [beq_eq_false_iff_ne, ne_eq]; intro h4; exact h3 (by exact_mod_cast h4)
                have hbel2 : Hid (∀ v, x ≤ v → v < y + 1 → x * x + v * v ≠ n) := by
                  intro v h4 h5
                  rcases Nat.lt_or_ge v y with h6 | h6
                  · exact hbel.out v h4 h6
                  · obtain rfl : v = y := by omega
                    exact h3
                clear h2 h3
                go_wp2_with fail
                go_round
                case rel => exact ⟨y + 1, by go_num, by omega, by omega, hbel2⟩
                case measure => simp [intOf]; omega
            · have d2 : decide ((x : Int) * x + (y : Int) * y ≤ (n : Nat)) = false := by simp only [decide_eq_false_iff_not]; intro h3; exact h2 (by exact_mod_cast h3)
              have hall2 := Lib.hid (next_two' hbel.out h2 hall.out)
              clear h2
              go_wp2_with fail
              go_round
              case rel => exact ⟨x + 1, by go_num, by omega, hall2⟩
              case measure => simp [intOf]; omega
        · have d1 : decide (2 * (x : Int) * x ≤ (n : Nat)) = false := by simp only [decide_eq_false_iff_not]; intro h3; exact h (by exact_mod_cast h3)
          obtain ⟨f1, f2, f3⟩ := HTI.out.none (below_two h hall.out)
          have g1 : (X == 0) = true := by simpa using f1
          have g2 : (Y == 0) = true := by simpa using f2
          have g3 : (E3 == 4) = true := by simpa using f3
          clear h f1 f2 f3
          go_wp2_with fail
          go_ret
          exact ⟨by simp, (by repeat (first | exact HB1.out | apply below_drewN))⟩
    · have d2 : decide (1000000 < p) = false := decide_eq_false hp2
      obtain ⟨P, rfl⟩ : ∃ P : Nat, p = P := ⟨p.toNat, by omega⟩
      have hPn : P ≤ 1000000 := by omega
      have HPR := Lib.hid (fun W => ref_Prime P W hPn)
      by_cases hpr : IsPr P
      · rw [prB_true hpr] at HPR
        rcases root_cases a P with ⟨x, hx⟩ | hx
        · have HR := Lib.hid (fun W => square_Root a P W ha ha' hpr hPn x 0 (Lib.hid (.inl ⟨x, rfl, rfl, hx⟩)))
          have HRO := Lib.hid (fun W => ref_RootOf a P W ha ha' (by omega) hPn x (Lib.hid (.inl ⟨x, rfl, hx⟩)))
          have dx : decide ((x : Int) < 0) = false := by simp <;> omega
          clear hx hpr
          go_enter Try.func9, Try.ntmps9
          go_wp2_with (first | (go_at_call 57; refine HS.out.mono ?_; rintro e1 w1 ⟨rfl, hb1⟩; have HB1 := Lib.hid hb1; clear hb1 HS) | (go_at_call 58; refine (HR.out _).mono ?_; rintro e1 w' ⟨rfl, q1, rfl⟩) | (go_at_call 59; refine (HT.out _).mono ?_; rintro e1 w' ⟨rfl, rfl⟩) | (go_at_call 60; refine (HSO.out _).mono ?_; rintro e1 w' ⟨rfl, q2, rfl⟩) | (go_at_call 50; refine (HPR.out _).mono ?_; rintro e1 w' ⟨rfl, rfl⟩) | (go_at_call 61; refine (HRO.out _).mono ?_; rintro e1 w' ⟨rfl, q3, rfl⟩))
          go_loop [15] (fun vx => ∃ x : Nat, vx = .int .i64 x ∧ x ≤ 1000 ∧ Hid (∀ u v, u < x → u ≤ v → u * u + v * v ≠ n)) (fun vx => 1001 - (intOf vx).toNat)
          case atStart => exact ⟨0, rfl, by omega, Lib.hid (by intro u v hu; omega)⟩
          case round =>
            obtain ⟨x, rfl, hx, hall⟩ := hrel
            have hsx := sq_int x 1000 hx
            have w1 : IntKind.i64.wrap (2 * (x : Int)) = 2 * (x : Int) := IntWalk.i64_in _ (by omega)
            have e2 : 2 * (x : Int) * x = 2 * ((x : Int) * x) := Int.mul_assoc _ _ _
            have w2 : IntKind.i64.wrap (2 * (x : Int) * x) = 2 * (x : Int) * x := IntWalk.i64_in _ (by omega)
            have wx : IntKind.i64.wrap ((x : Int) * x) = (x : Int) * x := IntWalk.i64_in _ (by omega)
            clear e2
            by_cases h : 2 * x * x ≤ n
            · have d1 : decide (2 * (x : Int) * x ≤ (n : Nat)) = true := by simp only [decide_eq_true_eq]; exact_mod_cast h
              have hx2 := two_small HN.out h
              clear h
              go_wp2_with fail
              go_loop [16] (fun vy => ∃ y : Nat, vy = .int .i64 y ∧ x ≤ y ∧ y ≤ 1001 ∧ Hid (∀ v, x ≤ v → v < y → x * x + v * v ≠ n)) (fun vy => 1002 - (intOf vy).toNat)
              case atStart => exact ⟨x, rfl, Nat.le_refl _, by omega, Lib.hid (by intro v h1 h2; omega)⟩
              case round =>
                obtain ⟨y, rfl, hxy, hy, hbel⟩ := hrel
                have hsy := sq_int y 1001 hy
                have wy : IntKind.i64.wrap ((y : Int) * y) = (y : Int) * y := IntWalk.i64_in _ (by omega)
                have wxy : IntKind.i64.wrap ((x : Int) * x + (y : Int) * y) = (x : Int) * x + (y : Int) * y := IntWalk.i64_in _ (by omega)
                by_cases h2 : x * x + y * y ≤ n
                · have d2 : decide ((x : Int) * x + (y : Int) * y ≤ (n : Nat)) = true := by simp only [decide_eq_true_eq]; exact_mod_cast h2
                  have hy2 := sum_small HN.out h2
                  by_cases h3 : x * x + y * y = n
                  · have d3 : ((x : Int) * x + (y : Int) * y == ((n : Nat) : Int)) = true := by simp only [beq_iff_eq]; exact_mod_cast h3
                    obtain ⟨f1, f2, f3⟩ := HTI.out.of hxy h3 hall.out
                    have g1 : (X == (x : Int)) = true := by simpa using f1
                    have g2 : (Y == (y : Int)) = true := by simpa using f2
                    have g3 : (E3 == 0) = true := by simpa using f3
                    clear h2 h3 f1 f2 f3
                    go_wp2_with fail
                    go_ret
                    exact ⟨by simp, (by repeat (first | exact HB1.out | apply below_drewN))⟩
                  · have d3 : ((x : Int) * x + (y : Int) * y == ((n : Nat) : Int)) = false := by simp only [beq_eq_false_iff_ne, ne_eq]; intro h4; exact h3 (by exact_mod_cast h4)
                    have hbel2 : Hid (∀ v, x ≤ v → v < y + 1 → x * x + v * v ≠ n) := by
                      intro v h4 h5
                      rcases Nat.lt_or_ge v y with h6 | h6
                      · exact hbel.out v h4 h6
                      · obtain rfl : v = y := by omega
                        exact h3
                    clear h2 h3
                    go_wp2_with fail
                    go_round
                    case rel => exact ⟨y + 1, by go_num, by omega, by omega, hbel2⟩
                    case measure => simp [intOf]; omega
                · have d2 : decide ((x : Int) * x + (y : Int) * y ≤ (n : Nat)) = false := by simp only [decide_eq_false_iff_not]; intro h3; exact h2 (by exact_mod_cast h3)
                  have hall2 := Lib.hid (next_two' hbel.out h2 hall.out)
                  clear h2
                  go_wp2_with fail
                  go_round
                  case rel => exact ⟨x + 1, by go_num, by omega, hall2⟩
                  case measure => simp [intOf]; omega
            · have d1 : decide (2 * (x : Int) * x ≤ (n : Nat)) = false := by simp only [decide_eq_false_iff_not]; intro h3; exact h (by exact_mod_cast h3)
              obtain ⟨f1, f2, f3⟩ := HTI.out.none (below_two h hall.out)
              have g1 : (X == 0) = true := by simpa using f1
              have g2 : (Y == 0) = true := by simpa using f2
              have g3 : (E3 == 4) = true := by simpa using f3
              clear h f1 f2 f3
              go_wp2_with fail
              go_ret
              exact ⟨by simp, (by repeat (first | exact HB1.out | apply below_drewN))⟩
        · have HR := Lib.hid (fun W => square_Root a P W ha ha' hpr hPn 0 4 (Lib.hid (.inr ⟨rfl, rfl, hx⟩)))
          have HRO := Lib.hid (fun W => ref_RootOf a P W ha ha' (by omega) hPn (-1) (Lib.hid (.inr ⟨rfl, hx⟩)))
          clear hx hpr
          go_enter Try.func9, Try.ntmps9
          go_wp2_with (first | (go_at_call 57; refine HS.out.mono ?_; rintro e1 w1 ⟨rfl, hb1⟩; have HB1 := Lib.hid hb1; clear hb1 HS) | (go_at_call 58; refine (HR.out _).mono ?_; rintro e1 w' ⟨rfl, q1, rfl⟩) | (go_at_call 59; refine (HT.out _).mono ?_; rintro e1 w' ⟨rfl, rfl⟩) | (go_at_call 60; refine (HSO.out _).mono ?_; rintro e1 w' ⟨rfl, q2, rfl⟩) | (go_at_call 50; refine (HPR.out _).mono ?_; rintro e1 w' ⟨rfl, rfl⟩) | (go_at_call 61; refine (HRO.out _).mono ?_; rintro e1 w' ⟨rfl, q3, rfl⟩))
          go_loop [15] (fun vx => ∃ x : Nat, vx = .int .i64 x ∧ x ≤ 1000 ∧ Hid (∀ u v, u < x → u ≤ v → u * u + v * v ≠ n)) (fun vx => 1001 - (intOf vx).toNat)
          case atStart => exact ⟨0, rfl, by omega, Lib.hid (by intro u v hu; omega)⟩
          case round =>
            obtain ⟨x, rfl, hx, hall⟩ := hrel
            have hsx := sq_int x 1000 hx
            have w1 : IntKind.i64.wrap (2 * (x : Int)) = 2 * (x : Int) := IntWalk.i64_in _ (by omega)
            have e2 : 2 * (x : Int) * x = 2 * ((x : Int) * x) := Int.mul_assoc _ _ _
            have w2 : IntKind.i64.wrap (2 * (x : Int) * x) = 2 * (x : Int) * x := IntWalk.i64_in _ (by omega)
            have wx : IntKind.i64.wrap ((x : Int) * x) = (x : Int) * x := IntWalk.i64_in _ (by omega)
            clear e2
            by_cases h : 2 * x * x ≤ n
            · have d1 : decide (2 * (x : Int) * x ≤ (n : Nat)) = true := by simp only [decide_eq_true_eq]; exact_mod_cast h
              have hx2 := two_small HN.out h
              clear h
              go_wp2_with fail
              go_loop [16] (fun vy => ∃ y : Nat, vy = .int .i64 y ∧ x ≤ y ∧ y ≤ 1001 ∧ Hid (∀ v, x ≤ v → v < y → x * x + v * v ≠ n)) (fun vy => 1002 - (intOf vy).toNat)
              case atStart => exact ⟨x, rfl, Nat.le_refl _, by omega, Lib.hid (by intro v h1 h2; omega)⟩
              case round =>
                obtain ⟨y, rfl, hxy, hy, hbel⟩ := hrel
                have hsy := sq_int y 1001 hy
                have wy : IntKind.i64.wrap ((y : Int) * y) = (y : Int) * y := IntWalk.i64_in _ (by omega)
                have wxy : IntKind.i64.wrap ((x : Int) * x + (y : Int) * y) = (x : Int) * x + (y : Int) * y := IntWalk.i64_in _ (by omega)
                by_cases h2 : x * x + y * y ≤ n
                · have d2 : decide ((x : Int) * x + (y : Int) * y ≤ (n : Nat)) = true := by simp only [decide_eq_true_eq]; exact_mod_cast h2
                  have hy2 := sum_small HN.out h2
                  by_cases h3 : x * x + y * y = n
                  · have d3 : ((x : Int) * x + (y : Int) * y == ((n : Nat) : Int)) = true := by simp only [beq_iff_eq]; exact_mod_cast h3
                    obtain ⟨f1, f2, f3⟩ := HTI.out.of hxy h3 hall.out
                    have g1 : (X == (x : Int)) = true := by simpa using f1
                    have g2 : (Y == (y : Int)) = true := by simpa using f2
                    have g3 : (E3 == 0) = true := by simpa using f3
                    clear h2 h3 f1 f2 f3
                    go_wp2_with fail
                    go_ret
                    exact ⟨by simp, (by repeat (first | exact HB1.out | apply below_drewN))⟩
                  · have d3 : ((x : Int) * x + (y : Int) * y == ((n : Nat) : Int)) = false := by simp only [beq_eq_false_iff_ne, ne_eq]; intro h4; exact h3 (by exact_mod_cast h4)
                    have hbel2 : Hid (∀ v, x ≤ v → v < y + 1 → x * x + v * v ≠ n) := by
                      intro v h4 h5
                      rcases Nat.lt_or_ge v y with h6 | h6
                      · exact hbel.out v h4 h6
                      · obtain rfl : v = y := by omega
                        exact h3
                    clear h2 h3
                    go_wp2_with fail
                    go_round
                    case rel => exact ⟨y + 1, by go_num, by omega, by omega, hbel2⟩
                    case measure => simp [intOf]; omega
                · have d2 : decide ((x : Int) * x + (y : Int) * y ≤ (n : Nat)) = false := by simp only [decide_eq_false_iff_not]; intro h3; exact h2 (by exact_mod_cast h3)
                  have hall2 := Lib.hid (next_two' hbel.out h2 hall.out)
                  clear h2
                  go_wp2_with fail
                  go_round
                  case rel => exact ⟨x + 1, by go_num, by omega, hall2⟩
                  case measure => simp [intOf]; omega
            · have d1 : decide (2 * (x : Int) * x ≤ (n : Nat)) = false := by simp only [decide_eq_false_iff_not]; intro h3; exact h (by exact_mod_cast h3)
              obtain ⟨f1, f2, f3⟩ := HTI.out.none (below_two h hall.out)
              have g1 : (X == 0) = true := by simpa using f1
              have g2 : (Y == 0) = true := by simpa using f2
              have g3 : (E3 == 4) = true := by simpa using f3
              clear h f1 f2 f3
              go_wp2_with fail
              go_ret
              exact ⟨by simp, (by repeat (first | exact HB1.out | apply below_drewN))⟩
      · rw [prB_false hpr] at HPR
        have HR := Lib.hid (fun W => square_Root_bad' a P W (.inr (.inr (by simpa using hpr))))
        clear hpr
        go_enter Try.func9, Try.ntmps9
        go_wp2_with (first | (go_at_call 57; refine HS.out.mono ?_; rintro e1 w1 ⟨rfl, hb1⟩; have HB1 := Lib.hid hb1; clear hb1 HS) | (go_at_call 58; refine (HR.out _).mono ?_; rintro e1 w' ⟨rfl, q1, rfl⟩) | (go_at_call 59; refine (HT.out _).mono ?_; rintro e1 w' ⟨rfl, rfl⟩) | (go_at_call 60; refine (HSO.out _).mono ?_; rintro e1 w' ⟨rfl, q2, rfl⟩) | (go_at_call 50; refine (HPR.out _).mono ?_; rintro e1 w' ⟨rfl, rfl⟩) | (go_at_call 61; refine (HRO.out _).mono ?_; rintro e1 w' ⟨rfl, q3, rfl⟩))
        go_loop [15] (fun vx => ∃ x : Nat, vx = .int .i64 x ∧ x ≤ 1000 ∧ Hid (∀ u v, u < x → u ≤ v → u * u + v * v ≠ n)) (fun vx => 1001 - (intOf vx).toNat)
        case atStart => exact ⟨0, rfl, by omega, Lib.hid (by intro u v hu; omega)⟩
        case round =>
          obtain ⟨x, rfl, hx, hall⟩ := hrel
          have hsx := sq_int x 1000 hx
          have w1 : IntKind.i64.wrap (2 * (x : Int)) = 2 * (x : Int) := IntWalk.i64_in _ (by omega)
          have e2 : 2 * (x : Int) * x = 2 * ((x : Int) * x) := Int.mul_assoc _ _ _
          have w2 : IntKind.i64.wrap (2 * (x : Int) * x) = 2 * (x : Int) * x := IntWalk.i64_in _ (by omega)
          have wx : IntKind.i64.wrap ((x : Int) * x) = (x : Int) * x := IntWalk.i64_in _ (by omega)
          clear e2
          by_cases h : 2 * x * x ≤ n
          · have d1 : decide (2 * (x : Int) * x ≤ (n : Nat)) = true := by simp only [decide_eq_true_eq]; exact_mod_cast h
            have hx2 := two_small HN.out h
            clear h
            go_wp2_with fail
            go_loop [16] (fun vy => ∃ y : Nat, vy = .int .i64 y ∧ x ≤ y ∧ y ≤ 1001 ∧ Hid (∀ v, x ≤ v → v < y → x * x + v * v ≠ n)) (fun vy => 1002 - (intOf vy).toNat)
            case atStart => exact ⟨x, rfl, Nat.le_refl _, by omega, Lib.hid (by intro v h1 h2; omega)⟩
            case round =>
              obtain ⟨y, rfl, hxy, hy, hbel⟩ := hrel
              have hsy := sq_int y 1001 hy
              have wy : IntKind.i64.wrap ((y : Int) * y) = (y : Int) * y := IntWalk.i64_in _ (by omega)
              have wxy : IntKind.i64.wrap ((x : Int) * x + (y : Int) * y) = (x : Int) * x + (y : Int) * y := IntWalk.i64_in _ (by omega)
              by_cases h2 : x * x + y * y ≤ n
              · have d2 : decide ((x : Int) * x + (y : Int) * y ≤ (n : Nat)) = true := by simp only [decide_eq_true_eq]; exact_mod_cast h2
                have hy2 := sum_small HN.out h2
                by_cases h3 : x * x + y * y = n
                · have d3 : ((x : Int) * x + (y : Int) * y == ((n : Nat) : Int)) = true := by simp only [beq_iff_eq]; exact_mod_cast h3
                  obtain ⟨f1, f2, f3⟩ := HTI.out.of hxy h3 hall.out
                  have g1 : (X == (x : Int)) = true := by simpa using f1
                  have g2 : (Y == (y : Int)) = true := by simpa using f2
                  have g3 : (E3 == 0) = true := by simpa using f3
                  clear h2 h3 f1 f2 f3
                  go_wp2_with fail
                  go_ret
                  exact ⟨by simp, (by repeat (first | exact HB1.out | apply below_drewN))⟩
                · have d3 : ((x : Int) * x + (y : Int) * y == ((n : Nat) : Int)) = false := by simp only [beq_eq_false_iff_ne, ne_eq]; intro h4; exact h3 (by exact_mod_cast h4)
                  have hbel2 : Hid (∀ v, x ≤ v → v < y + 1 → x * x + v * v ≠ n) := by
                    intro v h4 h5
                    rcases Nat.lt_or_ge v y with h6 | h6
                    · exact hbel.out v h4 h6
                    · obtain rfl : v = y := by omega
                      exact h3
                  clear h2 h3
                  go_wp2_with fail
                  go_round
                  case rel => exact ⟨y + 1, by go_num, by omega, by omega, hbel2⟩
                  case measure => simp [intOf]; omega
              · have d2 : decide ((x : Int) * x + (y : Int) * y ≤ (n : Nat)) = false := by simp only [decide_eq_false_iff_not]; intro h3; exact h2 (by exact_mod_cast h3)
                have hall2 := Lib.hid (next_two' hbel.out h2 hall.out)
                clear h2
                go_wp2_with fail
                go_round
                case rel => exact ⟨x + 1, by go_num, by omega, hall2⟩
                case measure => simp [intOf]; omega
          · have d1 : decide (2 * (x : Int) * x ≤ (n : Nat)) = false := by simp only [decide_eq_false_iff_not]; intro h3; exact h (by exact_mod_cast h3)
            obtain ⟨f1, f2, f3⟩ := HTI.out.none (below_two h hall.out)
            have g1 : (X == 0) = true := by simpa using f1
            have g2 : (Y == 0) = true := by simpa using f2
            have g3 : (E3 == 4) = true := by simpa using f3
            clear h f1 f2 f3
            go_wp2_with fail
            go_ret
            exact ⟨by simp, (by repeat (first | exact HB1.out | apply below_drewN))⟩

set_option maxRecDepth 100000 in
set_option maxHeartbeats 8000000 in
theorem squareSays_big (a : Int) (n : Int) (p : Int) (w : World) (ha : -9223372036854775808 ≤ a) (ha' : a ≤ 9223372036854775807) (h : 1000000 < n) :
    Calls Try.prog 9 #[.int .i64 a, .int .i64 n, .int .i64 p] w fun e w' => e = .returned (.bool true) ∧ Below w.heap.size w w' := by
  have f0 : decide (n < 1) = false := by simp; omega
  have f1 : decide (1000000 < n) = true := by simp; omega
  have f2 : decide (n < 0) = false := by simp; omega
  have HS := Lib.hid (square_Symbol_bad a n w (by omega))
  have HT := Lib.hid (fun W => square_Two_bad n W (by omega))
  by_cases hp1 : p < 2
  · have d1 : decide (p < 2) = true := decide_eq_true hp1
    have HR := Lib.hid (fun W => square_Root_bad' a p W (.inl hp1))
    go_enter Try.func9, Try.ntmps9
    go_wp2_with (first | (go_at_call 57; refine HS.out.mono ?_; rintro e1 w1 ⟨rfl, hb1⟩; have HB1 := Lib.hid hb1; clear hb1 HS) | (go_at_call 58; refine (HR.out _).mono ?_; rintro e1 w' ⟨rfl, q1, rfl⟩) | (go_at_call 59; refine (HT.out _).mono ?_; rintro e1 w' ⟨rfl, rfl⟩) | (go_at_call 60; refine (HSO.out _).mono ?_; rintro e1 w' ⟨rfl, q2, rfl⟩) | (go_at_call 50; refine (HPR.out _).mono ?_; rintro e1 w' ⟨rfl, rfl⟩) | (go_at_call 61; refine (HRO.out _).mono ?_; rintro e1 w' ⟨rfl, q3, rfl⟩))
    go_ret
    exact ⟨by simp, (by repeat (first | exact HB1.out | apply below_drewN))⟩
  · have d1 : decide (p < 2) = false := decide_eq_false hp1
    by_cases hp2 : 1000000 < p
    · have d2 : decide (1000000 < p) = true := decide_eq_true hp2
      have HR := Lib.hid (fun W => square_Root_bad' a p W (.inr (.inl hp2)))
      go_enter Try.func9, Try.ntmps9
      go_wp2_with (first | (go_at_call 57; refine HS.out.mono ?_; rintro e1 w1 ⟨rfl, hb1⟩; have HB1 := Lib.hid hb1; clear hb1 HS) | (go_at_call 58; refine (HR.out _).mono ?_; rintro e1 w' ⟨rfl, q1, rfl⟩) | (go_at_call 59; refine (HT.out _).mono ?_; rintro e1 w' ⟨rfl, rfl⟩) | (go_at_call 60; refine (HSO.out _).mono ?_; rintro e1 w' ⟨rfl, q2, rfl⟩) | (go_at_call 50; refine (HPR.out _).mono ?_; rintro e1 w' ⟨rfl, rfl⟩) | (go_at_call 61; refine (HRO.out _).mono ?_; rintro e1 w' ⟨rfl, q3, rfl⟩))
      go_ret
      exact ⟨by simp, (by repeat (first | exact HB1.out | apply below_drewN))⟩
    · have d2 : decide (1000000 < p) = false := decide_eq_false hp2
      obtain ⟨P, rfl⟩ : ∃ P : Nat, p = P := ⟨p.toNat, by omega⟩
      have hPn : P ≤ 1000000 := by omega
      have HPR := Lib.hid (fun W => ref_Prime P W hPn)
      by_cases hpr : IsPr P
      · rw [prB_true hpr] at HPR
        rcases root_cases a P with ⟨x, hx⟩ | hx
        · have HR := Lib.hid (fun W => square_Root a P W ha ha' hpr hPn x 0 (Lib.hid (.inl ⟨x, rfl, rfl, hx⟩)))
          have HRO := Lib.hid (fun W => ref_RootOf a P W ha ha' (by omega) hPn x (Lib.hid (.inl ⟨x, rfl, hx⟩)))
          have dx : decide ((x : Int) < 0) = false := by simp <;> omega
          clear hx hpr
          go_enter Try.func9, Try.ntmps9
          go_wp2_with (first | (go_at_call 57; refine HS.out.mono ?_; rintro e1 w1 ⟨rfl, hb1⟩; have HB1 := Lib.hid hb1; clear hb1 HS) | (go_at_call 58; refine (HR.out _).mono ?_; rintro e1 w' ⟨rfl, q1, rfl⟩) | (go_at_call 59; refine (HT.out _).mono ?_; rintro e1 w' ⟨rfl, rfl⟩) | (go_at_call 60; refine (HSO.out _).mono ?_; rintro e1 w' ⟨rfl, q2, rfl⟩) | (go_at_call 50; refine (HPR.out _).mono ?_; rintro e1 w' ⟨rfl, rfl⟩) | (go_at_call 61; refine (HRO.out _).mono ?_; rintro e1 w' ⟨rfl, q3, rfl⟩))
          go_ret
          exact ⟨by simp, (by repeat (first | exact HB1.out | apply below_drewN))⟩
        · have HR := Lib.hid (fun W => square_Root a P W ha ha' hpr hPn 0 4 (Lib.hid (.inr ⟨rfl, rfl, hx⟩)))
          have HRO := Lib.hid (fun W => ref_RootOf a P W ha ha' (by omega) hPn (-1) (Lib.hid (.inr ⟨rfl, hx⟩)))
          clear hx hpr
          go_enter Try.func9, Try.ntmps9
          go_wp2_with (first | (go_at_call 57; refine HS.out.mono ?_; rintro e1 w1 ⟨rfl, hb1⟩; have HB1 := Lib.hid hb1; clear hb1 HS) | (go_at_call 58; refine (HR.out _).mono ?_; rintro e1 w' ⟨rfl, q1, rfl⟩) | (go_at_call 59; refine (HT.out _).mono ?_; rintro e1 w' ⟨rfl, rfl⟩) | (go_at_call 60; refine (HSO.out _).mono ?_; rintro e1 w' ⟨rfl, q2, rfl⟩) | (go_at_call 50; refine (HPR.out _).mono ?_; rintro e1 w' ⟨rfl, rfl⟩) | (go_at_call 61; refine (HRO.out _).mono ?_; rintro e1 w' ⟨rfl, q3, rfl⟩))
          go_ret
          exact ⟨by simp, (by repeat (first | exact HB1.out | apply below_drewN))⟩
      · rw [prB_false hpr] at HPR
        have HR := Lib.hid (fun W => square_Root_bad' a P W (.inr (.inr (by simpa using hpr))))
        clear hpr
        go_enter Try.func9, Try.ntmps9
        go_wp2_with (first | (go_at_call 57; refine HS.out.mono ?_; rintro e1 w1 ⟨rfl, hb1⟩; have HB1 := Lib.hid hb1; clear hb1 HS) | (go_at_call 58; refine (HR.out _).mono ?_; rintro e1 w' ⟨rfl, q1, rfl⟩) | (go_at_call 59; refine (HT.out _).mono ?_; rintro e1 w' ⟨rfl, rfl⟩) | (go_at_call 60; refine (HSO.out _).mono ?_; rintro e1 w' ⟨rfl, q2, rfl⟩) | (go_at_call 50; refine (HPR.out _).mono ?_; rintro e1 w' ⟨rfl, rfl⟩) | (go_at_call 61; refine (HRO.out _).mono ?_; rintro e1 w' ⟨rfl, q3, rfl⟩))
        go_ret
        exact ⟨by simp, (by repeat (first | exact HB1.out | apply below_drewN))⟩

set_option maxRecDepth 100000 in
set_option maxHeartbeats 8000000 in
theorem squareSays_even (a : Int) (n : Nat) (p : Int) (w : World) (ha : -9223372036854775808 ≤ a) (ha' : a ≤ 9223372036854775807) (h1 : 1 ≤ n) (hn : n ≤ 1000000) (h2 : n % 2 = 0) :
    Calls Try.prog 9 #[.int .i64 a, .int .i64 n, .int .i64 p] w fun e w' => e = .returned (.bool true) ∧ Below w.heap.size w w' := by
  have f0 : decide ((n : Int) < 1) = false := by simp; omega
  have f1 : decide ((1000000 : Int) < n) = false := by simp; omega
  have f2 : ((n : Int) % 2 == 0) = true := by simp only [beq_iff_eq]; omega
  have HS := Lib.hid (square_Symbol_bad a n w (by omega))
  obtain ⟨X, Y, E3, hti⟩ := two_exists n
  have HTI := Lib.hid hti
  have HT := Lib.hid (fun W => square_Two n W (by omega) X Y E3 HTI)
  have HN : Hid (n ≤ 1000000) := Lib.hid (by omega)
  clear hti
  by_cases hp1 : p < 2
  · have d1 : decide (p < 2) = true := decide_eq_true hp1
    have HR := Lib.hid (fun W => square_Root_bad' a p W (.inl hp1))
    go_enter Try.func9, Try.ntmps9
    go_wp2_with (first | (go_at_call 57; refine HS.out.mono ?_; rintro e1 w1 ⟨rfl, hb1⟩; have HB1 := Lib.hid hb1; clear hb1 HS) | (go_at_call 58; refine (HR.out _).mono ?_; rintro e1 w' ⟨rfl, q1, rfl⟩) | (go_at_call 59; refine (HT.out _).mono ?_; rintro e1 w' ⟨rfl, rfl⟩) | (go_at_call 60; refine (HSO.out _).mono ?_; rintro e1 w' ⟨rfl, q2, rfl⟩) | (go_at_call 50; refine (HPR.out _).mono ?_; rintro e1 w' ⟨rfl, rfl⟩) | (go_at_call 61; refine (HRO.out _).mono ?_; rintro e1 w' ⟨rfl, q3, rfl⟩))
    go_loop [15] (fun vx => ∃ x : Nat, vx = .int .i64 x ∧ x ≤ 1000 ∧ Hid (∀ u v, u < x → u ≤ v → u * u + v * v ≠ n)) (fun vx => 1001 - (intOf vx).toNat)
    case atStart => exact ⟨0, rfl, by omega, Lib.hid (by intro u v hu; omega)⟩
    case round =>
      obtain ⟨x, rfl, hx, hall⟩ := hrel
      have hsx := sq_int x 1000 hx
      have w1 : IntKind.i64.wrap (2 * (x : Int)) = 2 * (x : Int) := IntWalk.i64_in _ (by omega)
      have e2 : 2 * (x : Int) * x = 2 * ((x : Int) * x) := Int.mul_assoc _ _ _
      have w2 : IntKind.i64.wrap (2 * (x : Int) * x) = 2 * (x : Int) * x := IntWalk.i64_in _ (by omega)
      have wx : IntKind.i64.wrap ((x : Int) * x) = (x : Int) * x := IntWalk.i64_in _ (by omega)
      clear e2
      by_cases h : 2 * x * x ≤ n
      · have d1 : decide (2 * (x : Int) * x ≤ (n : Nat)) = true := by simp only [decide_eq_true_eq]; exact_mod_cast h
        have hx2 := two_small HN.out h
        clear h
        go_wp2_with fail
        go_loop [16] (fun vy => ∃ y : Nat, vy = .int .i64 y ∧ x ≤ y ∧ y ≤ 1001 ∧ Hid (∀ v, x ≤ v → v < y → x * x + v * v ≠ n)) (fun vy => 1002 - (intOf vy).toNat)
        case atStart => exact ⟨x, rfl, Nat.le_refl _, by omega, Lib.hid (by intro v h1 h2; omega)⟩
        case round =>
          obtain ⟨y, rfl, hxy, hy, hbel⟩ := hrel
          have hsy := sq_int y 1001 hy
          have wy : IntKind.i64.wrap ((y : Int) * y) = (y : Int) * y := IntWalk.i64_in _ (by omega)
          have wxy : IntKind.i64.wrap ((x : Int) * x + (y : Int) * y) = (x : Int) * x + (y : Int) * y := IntWalk.i64_in _ (by omega)
          by_cases h2 : x * x + y * y ≤ n
          · have d2 : decide ((x : Int) * x + (y : Int) * y ≤ (n : Nat)) = true := by simp only [decide_eq_true_eq]; exact_mod_cast h2
            have hy2 := sum_small HN.out h2
            by_cases h3 : x * x + y * y = n
            · have d3 : ((x : Int) * x + (y : Int) * y == ((n : Nat) : Int)) = true := by simp only [beq_iff_eq]; exact_mod_cast h3
              obtain ⟨f1, f2, f3⟩ := HTI.out.of hxy h3 hall.out
              have g1 : (X == (x : Int)) = true := by simpa using f1
              have g2 : (Y == (y : Int)) = true := by simpa using f2
              have g3 : (E3 == 0) = true := by simpa using f3
              clear h2 h3 f1 f2 f3
              go_wp2_with fail
              go_ret
              exact ⟨by simp, (by repeat (first | exact HB1.out | apply below_drewN))⟩
            · have d3 : ((x : Int) * x + (y : Int) * y == ((n : Nat) : Int)) = false := by simp only [beq_eq_false_iff_ne, ne_eq]; intro h4; exact h3 (by exact_mod_cast h4)
              have hbel2 : Hid (∀ v, x ≤ v → v < y + 1 → x * x + v * v ≠ n) := by
                intro v h4 h5
                rcases Nat.lt_or_ge v y with h6 | h6
                · exact hbel.out v h4 h6
                · obtain rfl : v = y := by omega
                  exact h3
              clear h2 h3
              go_wp2_with fail
              go_round
              case rel => exact ⟨y + 1, by go_num, by omega, by omega, hbel2⟩
              case measure => simp [intOf]; omega
          · have d2 : decide ((x : Int) * x + (y : Int) * y ≤ (n : Nat)) = false := by simp only [decide_eq_false_iff_not]; intro h3; exact h2 (by exact_mod_cast h3)
            have hall2 := Lib.hid (next_two' hbel.out h2 hall.out)
            clear h2
            go_wp2_with fail
            go_round
            case rel => exact ⟨x + 1, by go_num, by omega, hall2⟩
            case measure => simp [intOf]; omega
      · have d1 : decide (2 * (x : Int) * x ≤ (n : Nat)) = false := by simp only [decide_eq_false_iff_not]; intro h3; exact h (by exact_mod_cast h3)
        obtain ⟨f1, f2, f3⟩ := HTI.out.none (below_two h hall.out)
        have g1 : (X == 0) = true := by simpa using f1
        have g2 : (Y == 0) = true := by simpa using f2
        have g3 : (E3 == 4) = true := by simpa using f3
        clear h f1 f2 f3
        go_wp2_with fail
        go_ret
        exact ⟨by simp, (by repeat (first | exact HB1.out | apply below_drewN))⟩
  · have d1 : decide (p < 2) = false := decide_eq_false hp1
    by_cases hp2 : 1000000 < p
    · have d2 : decide (1000000 < p) = true := decide_eq_true hp2
      have HR := Lib.hid (fun W => square_Root_bad' a p W (.inr (.inl hp2)))
      go_enter Try.func9, Try.ntmps9
      go_wp2_with (first | (go_at_call 57; refine HS.out.mono ?_; rintro e1 w1 ⟨rfl, hb1⟩; have HB1 := Lib.hid hb1; clear hb1 HS) | (go_at_call 58; refine (HR.out _).mono ?_; rintro e1 w' ⟨rfl, q1, rfl⟩) | (go_at_call 59; refine (HT.out _).mono ?_; rintro e1 w' ⟨rfl, rfl⟩) | (go_at_call 60; refine (HSO.out _).mono ?_; rintro e1 w' ⟨rfl, q2, rfl⟩) | (go_at_call 50; refine (HPR.out _).mono ?_; rintro e1 w' ⟨rfl, rfl⟩) | (go_at_call 61; refine (HRO.out _).mono ?_; rintro e1 w' ⟨rfl, q3, rfl⟩))
      go_loop [15] (fun vx => ∃ x : Nat, vx = .int .i64 x ∧ x ≤ 1000 ∧ Hid (∀ u v, u < x → u ≤ v → u * u + v * v ≠ n)) (fun vx => 1001 - (intOf vx).toNat)
      case atStart => exact ⟨0, rfl, by omega, Lib.hid (by intro u v hu; omega)⟩
      case round =>
        obtain ⟨x, rfl, hx, hall⟩ := hrel
        have hsx := sq_int x 1000 hx
        have w1 : IntKind.i64.wrap (2 * (x : Int)) = 2 * (x : Int) := IntWalk.i64_in _ (by omega)
        have e2 : 2 * (x : Int) * x = 2 * ((x : Int) * x) := Int.mul_assoc _ _ _
        have w2 : IntKind.i64.wrap (2 * (x : Int) * x) = 2 * (x : Int) * x := IntWalk.i64_in _ (by omega)
        have wx : IntKind.i64.wrap ((x : Int) * x) = (x : Int) * x := IntWalk.i64_in _ (by omega)
        clear e2
        by_cases h : 2 * x * x ≤ n
        · have d1 : decide (2 * (x : Int) * x ≤ (n : Nat)) = true := by simp only [decide_eq_true_eq]; exact_mod_cast h
          have hx2 := two_small HN.out h
          clear h
          go_wp2_with fail
          go_loop [16] (fun vy => ∃ y : Nat, vy = .int .i64 y ∧ x ≤ y ∧ y ≤ 1001 ∧ Hid (∀ v, x ≤ v → v < y → x * x + v * v ≠ n)) (fun vy => 1002 - (intOf vy).toNat)
          case atStart => exact ⟨x, rfl, Nat.le_refl _, by omega, Lib.hid (by intro v h1 h2; omega)⟩
          case round =>
            obtain ⟨y, rfl, hxy, hy, hbel⟩ := hrel
            have hsy := sq_int y 1001 hy
            have wy : IntKind.i64.wrap ((y : Int) * y) = (y : Int) * y := IntWalk.i64_in _ (by omega)
            have wxy : IntKind.i64.wrap ((x : Int) * x + (y : Int) * y) = (x : Int) * x + (y : Int) * y := IntWalk.i64_in _ (by omega)
            by_cases h2 : x * x + y * y ≤ n
            · have d2 : decide ((x : Int) * x + (y : Int) * y ≤ (n : Nat)) = true := by simp only [decide_eq_true_eq]; exact_mod_cast h2
              have hy2 := sum_small HN.out h2
              by_cases h3 : x * x + y * y = n
              · have d3 : ((x : Int) * x + (y : Int) * y == ((n : Nat) : Int)) = true := by simp only [beq_iff_eq]; exact_mod_cast h3
                obtain ⟨f1, f2, f3⟩ := HTI.out.of hxy h3 hall.out
                have g1 : (X == (x : Int)) = true := by simpa using f1
                have g2 : (Y == (y : Int)) = true := by simpa using f2
                have g3 : (E3 == 0) = true := by simpa using f3
                clear h2 h3 f1 f2 f3
                go_wp2_with fail
                go_ret
                exact ⟨by simp, (by repeat (first | exact HB1.out | apply below_drewN))⟩
              · have d3 : ((x : Int) * x + (y : Int) * y == ((n : Nat) : Int)) = false := by simp only [beq_eq_false_iff_ne, ne_eq]; intro h4; exact h3 (by exact_mod_cast h4)
                have hbel2 : Hid (∀ v, x ≤ v → v < y + 1 → x * x + v * v ≠ n) := by
                  intro v h4 h5
                  rcases Nat.lt_or_ge v y with h6 | h6
                  · exact hbel.out v h4 h6
                  · obtain rfl : v = y := by omega
                    exact h3
                clear h2 h3
                go_wp2_with fail
                go_round
                case rel => exact ⟨y + 1, by go_num, by omega, by omega, hbel2⟩
                case measure => simp [intOf]; omega
            · have d2 : decide ((x : Int) * x + (y : Int) * y ≤ (n : Nat)) = false := by simp only [decide_eq_false_iff_not]; intro h3; exact h2 (by exact_mod_cast h3)
              have hall2 := Lib.hid (next_two' hbel.out h2 hall.out)
              clear h2
              go_wp2_with fail
              go_round
              case rel => exact ⟨x + 1, by go_num, by omega, hall2⟩
              case measure => simp [intOf]; omega
        · have d1 : decide (2 * (x : Int) * x ≤ (n : Nat)) = false := by simp only [decide_eq_false_iff_not]; intro h3; exact h (by exact_mod_cast h3)
          obtain ⟨f1, f2, f3⟩ := HTI.out.none (below_two h hall.out)
          have g1 : (X == 0) = true := by simpa using f1
          have g2 : (Y == 0) = true := by simpa using f2
          have g3 : (E3 == 4) = true := by simpa using f3
          clear h f1 f2 f3
          go_wp2_with fail
          go_ret
          exact ⟨by simp, (by repeat (first | exact HB1.out | apply below_drewN))⟩
    · have d2 : decide (1000000 < p) = false := decide_eq_false hp2
      obtain ⟨P, rfl⟩ : ∃ P : Nat, p = P := ⟨p.toNat, by omega⟩
      have hPn : P ≤ 1000000 := by omega
      have HPR := Lib.hid (fun W => ref_Prime P W hPn)
      by_cases hpr : IsPr P
      · rw [prB_true hpr] at HPR
        rcases root_cases a P with ⟨x, hx⟩ | hx
        · have HR := Lib.hid (fun W => square_Root a P W ha ha' hpr hPn x 0 (Lib.hid (.inl ⟨x, rfl, rfl, hx⟩)))
          have HRO := Lib.hid (fun W => ref_RootOf a P W ha ha' (by omega) hPn x (Lib.hid (.inl ⟨x, rfl, hx⟩)))
          have dx : decide ((x : Int) < 0) = false := by simp <;> omega
          clear hx hpr
          go_enter Try.func9, Try.ntmps9
          go_wp2_with (first | (go_at_call 57; refine HS.out.mono ?_; rintro e1 w1 ⟨rfl, hb1⟩; have HB1 := Lib.hid hb1; clear hb1 HS) | (go_at_call 58; refine (HR.out _).mono ?_; rintro e1 w' ⟨rfl, q1, rfl⟩) | (go_at_call 59; refine (HT.out _).mono ?_; rintro e1 w' ⟨rfl, rfl⟩) | (go_at_call 60; refine (HSO.out _).mono ?_; rintro e1 w' ⟨rfl, q2, rfl⟩) | (go_at_call 50; refine (HPR.out _).mono ?_; rintro e1 w' ⟨rfl, rfl⟩) | (go_at_call 61; refine (HRO.out _).mono ?_; rintro e1 w' ⟨rfl, q3, rfl⟩))
          go_loop [15] (fun vx => ∃ x : Nat, vx = .int .i64 x ∧ x ≤ 1000 ∧ Hid (∀ u v, u < x → u ≤ v → u * u + v * v ≠ n)) (fun vx => 1001 - (intOf vx).toNat)
          case atStart => exact ⟨0, rfl, by omega, Lib.hid (by intro u v hu; omega)⟩
          case round =>
            obtain ⟨x, rfl, hx, hall⟩ := hrel
            have hsx := sq_int x 1000 hx
            have w1 : IntKind.i64.wrap (2 * (x : Int)) = 2 * (x : Int) := IntWalk.i64_in _ (by omega)
            have e2 : 2 * (x : Int) * x = 2 * ((x : Int) * x) := Int.mul_assoc _ _ _
            have w2 : IntKind.i64.wrap (2 * (x : Int) * x) = 2 * (x : Int) * x := IntWalk.i64_in _ (by omega)
            have wx : IntKind.i64.wrap ((x : Int) * x) = (x : Int) * x := IntWalk.i64_in _ (by omega)
            clear e2
            by_cases h : 2 * x * x ≤ n
            · have d1 : decide (2 * (x : Int) * x ≤ (n : Nat)) = true := by simp only [decide_eq_true_eq]; exact_mod_cast h
              have hx2 := two_small HN.out h
              clear h
              go_wp2_with fail
              go_loop [16] (fun vy => ∃ y : Nat, vy = .int .i64 y ∧ x ≤ y ∧ y ≤ 1001 ∧ Hid (∀ v, x ≤ v → v < y → x * x + v * v ≠ n)) (fun vy => 1002 - (intOf vy).toNat)
              case atStart => exact ⟨x, rfl, Nat.le_refl _, by omega, Lib.hid (by intro v h1 h2; omega)⟩
              case round =>
                obtain ⟨y, rfl, hxy, hy, hbel⟩ := hrel
                have hsy := sq_int y 1001 hy
                have wy : IntKind.i64.wrap ((y : Int) * y) = (y : Int) * y := IntWalk.i64_in _ (by omega)
                have wxy : IntKind.i64.wrap ((x : Int) * x + (y : Int) * y) = (x : Int) * x + (y : Int) * y := IntWalk.i64_in _ (by omega)
                by_cases h2 : x * x + y * y ≤ n
                · have d2 : decide ((x : Int) * x + (y : Int) * y ≤ (n : Nat)) = true := by simp only [decide_eq_true_eq]; exact_mod_cast h2
                  have hy2 := sum_small HN.out h2
                  by_cases h3 : x * x + y * y = n
                  · have d3 : ((x : Int) * x + (y : Int) * y == ((n : Nat) : Int)) = true := by simp only [beq_iff_eq]; exact_mod_cast h3
                    obtain ⟨f1, f2, f3⟩ := HTI.out.of hxy h3 hall.out
                    have g1 : (X == (x : Int)) = true := by simpa using f1
                    have g2 : (Y == (y : Int)) = true := by simpa using f2
                    have g3 : (E3 == 0) = true := by simpa using f3
                    clear h2 h3 f1 f2 f3
                    go_wp2_with fail
                    go_ret
                    exact ⟨by simp, (by repeat (first | exact HB1.out | apply below_drewN))⟩
                  · have d3 : ((x : Int) * x + (y : Int) * y == ((n : Nat) : Int)) = false := by simp only [beq_eq_false_iff_ne, ne_eq]; intro h4; exact h3 (by exact_mod_cast h4)
                    have hbel2 : Hid (∀ v, x ≤ v → v < y + 1 → x * x + v * v ≠ n) := by
                      intro v h4 h5
                      rcases Nat.lt_or_ge v y with h6 | h6
                      · exact hbel.out v h4 h6
                      · obtain rfl : v = y := by omega
                        exact h3
                    clear h2 h3
                    go_wp2_with fail
                    go_round
                    case rel => exact ⟨y + 1, by go_num, by omega, by omega, hbel2⟩
                    case measure => simp [intOf]; omega
                · have d2 : decide ((x : Int) * x + (y : Int) * y ≤ (n : Nat)) = false := by simp only [decide_eq_false_iff_not]; intro h3; exact h2 (by exact_mod_cast h3)
                  have hall2 := Lib.hid (next_two' hbel.out h2 hall.out)
                  clear h2
                  go_wp2_with fail
                  go_round
                  case rel => exact ⟨x + 1, by go_num, by omega, hall2⟩
                  case measure => simp [intOf]; omega
            · have d1 : decide (2 * (x : Int) * x ≤ (n : Nat)) = false := by simp only [decide_eq_false_iff_not]; intro h3; exact h (by exact_mod_cast h3)
              obtain ⟨f1, f2, f3⟩ := HTI.out.none (below_two h hall.out)
              have g1 : (X == 0) = true := by simpa using f1
              have g2 : (Y == 0) = true := by simpa using f2
              have g3 : (E3 == 4) = true := by simpa using f3
              clear h f1 f2 f3
              go_wp2_with fail
              go_ret
              exact ⟨by simp, (by repeat (first | exact HB1.out | apply below_drewN))⟩
        · have HR := Lib.hid (fun W => square_Root a P W ha ha' hpr hPn 0 4 (Lib.hid (.inr ⟨rfl, rfl, hx⟩)))
          have HRO := Lib.hid (fun W => ref_RootOf a P W ha ha' (by omega) hPn (-1) (Lib.hid (.inr ⟨rfl, hx⟩)))
          clear hx hpr
          go_enter Try.func9, Try.ntmps9
          go_wp2_with (first | (go_at_call 57; refine HS.out.mono ?_; rintro e1 w1 ⟨rfl, hb1⟩; have HB1 := Lib.hid hb1; clear hb1 HS) | (go_at_call 58; refine (HR.out _).mono ?_; rintro e1 w' ⟨rfl, q1, rfl⟩) | (go_at_call 59; refine (HT.out _).mono ?_; rintro e1 w' ⟨rfl, rfl⟩) | (go_at_call 60; refine (HSO.out _).mono ?_; rintro e1 w' ⟨rfl, q2, rfl⟩) | (go_at_call 50; refine (HPR.out _).mono ?_; rintro e1 w' ⟨rfl, rfl⟩) | (go_at_call 61; refine (HRO.out _).mono ?_; rintro e1 w' ⟨rfl, q3, rfl⟩))
          go_loop [15] (fun vx => ∃ x : Nat, vx = .int .i64 x ∧ x ≤ 1000 ∧ Hid (∀ u v, u < x → u ≤ v → u * u + v * v ≠ n)) (fun vx => 1001 - (intOf vx).toNat)
          case atStart => exact ⟨0, rfl, by omega, Lib.hid (by intro u v hu; omega)⟩
          case round =>
            obtain ⟨x, rfl, hx, hall⟩ := hrel
            have hsx := sq_int x 1000 hx
            have w1 : IntKind.i64.wrap (2 * (x : Int)) = 2 * (x : Int) := IntWalk.i64_in _ (by omega)
            have e2 : 2 * (x : Int) * x = 2 * ((x : Int) * x) := Int.mul_assoc _ _ _
            have w2 : IntKind.i64.wrap (2 * (x : Int) * x) = 2 * (x : Int) * x := IntWalk.i64_in _ (by omega)
            have wx : IntKind.i64.wrap ((x : Int) * x) = (x : Int) * x := IntWalk.i64_in _ (by omega)
            clear e2
            by_cases h : 2 * x * x ≤ n
            · have d1 : decide (2 * (x : Int) * x ≤ (n : Nat)) = true := by simp only [decide_eq_true_eq]; exact_mod_cast h
              have hx2 := two_small HN.out h
              clear h
              go_wp2_with fail
              go_loop [16] (fun vy => ∃ y : Nat, vy = .int .i64 y ∧ x ≤ y ∧ y ≤ 1001 ∧ Hid (∀ v, x ≤ v → v < y → x * x + v * v ≠ n)) (fun vy => 1002 - (intOf vy).toNat)
              case atStart => exact ⟨x, rfl, Nat.le_refl _, by omega, Lib.hid (by intro v h1 h2; omega)⟩
              case round =>
                obtain ⟨y, rfl, hxy, hy, hbel⟩ := hrel
                have hsy := sq_int y 1001 hy
                have wy : IntKind.i64.wrap ((y : Int) * y) = (y : Int) * y := IntWalk.i64_in _ (by omega)
                have wxy : IntKind.i64.wrap ((x : Int) * x + (y : Int) * y) = (x : Int) * x + (y : Int) * y := IntWalk.i64_in _ (by omega)
                by_cases h2 : x * x + y * y ≤ n
                · have d2 : decide ((x : Int) * x + (y : Int) * y ≤ (n : Nat)) = true := by simp only [decide_eq_true_eq]; exact_mod_cast h2
                  have hy2 := sum_small HN.out h2
                  by_cases h3 : x * x + y * y = n
                  · have d3 : ((x : Int) * x + (y : Int) * y == ((n : Nat) : Int)) = true := by simp only [beq_iff_eq]; exact_mod_cast h3
                    obtain ⟨f1, f2, f3⟩ := HTI.out.of hxy h3 hall.out
                    have g1 : (X == (x : Int)) = true := by simpa using f1
                    have g2 : (Y == (y : Int)) = true := by simpa using f2
                    have g3 : (E3 == 0) = true := by simpa using f3
                    clear h2 h3 f1 f2 f3
                    go_wp2_with fail
                    go_ret
                    exact ⟨by simp, (by repeat (first | exact HB1.out | apply below_drewN))⟩
                  · have d3 : ((x : Int) * x + (y : Int) * y == ((n : Nat) : Int)) = false := by simp only [beq_eq_false_iff_ne, ne_eq]; intro h4; exact h3 (by exact_mod_cast h4)
                    have hbel2 : Hid (∀ v, x ≤ v → v < y + 1 → x * x + v * v ≠ n) := by
                      intro v h4 h5
                      rcases Nat.lt_or_ge v y with h6 | h6
                      · exact hbel.out v h4 h6
                      · obtain rfl : v = y := by omega
                        exact h3
                    clear h2 h3
                    go_wp2_with fail
                    go_round
                    case rel => exact ⟨y + 1, by go_num, by omega, by omega, hbel2⟩
                    case measure => simp [intOf]; omega
                · have d2 : decide ((x : Int) * x + (y : Int) * y ≤ (n : Nat)) = false := by simp only [decide_eq_false_iff_not]; intro h3; exact h2 (by exact_mod_cast h3)
                  have hall2 := Lib.hid (next_two' hbel.out h2 hall.out)
                  clear h2
                  go_wp2_with fail
                  go_round
                  case rel => exact ⟨x + 1, by go_num, by omega, hall2⟩
                  case measure => simp [intOf]; omega
            · have d1 : decide (2 * (x : Int) * x ≤ (n : Nat)) = false := by simp only [decide_eq_false_iff_not]; intro h3; exact h (by exact_mod_cast h3)
              obtain ⟨f1, f2, f3⟩ := HTI.out.none (below_two h hall.out)
              have g1 : (X == 0) = true := by simpa using f1
              have g2 : (Y == 0) = true := by simpa using f2
              have g3 : (E3 == 4) = true := by simpa using f3
              clear h f1 f2 f3
              go_wp2_with fail
              go_ret
              exact ⟨by simp, (by repeat (first | exact HB1.out | apply below_drewN))⟩
      · rw [prB_false hpr] at HPR
        have HR := Lib.hid (fun W => square_Root_bad' a P W (.inr (.inr (by simpa using hpr))))
        clear hpr
        go_enter Try.func9, Try.ntmps9
        go_wp2_with (first | (go_at_call 57; refine HS.out.mono ?_; rintro e1 w1 ⟨rfl, hb1⟩; have HB1 := Lib.hid hb1; clear hb1 HS) | (go_at_call 58; refine (HR.out _).mono ?_; rintro e1 w' ⟨rfl, q1, rfl⟩) | (go_at_call 59; refine (HT.out _).mono ?_; rintro e1 w' ⟨rfl, rfl⟩) | (go_at_call 60; refine (HSO.out _).mono ?_; rintro e1 w' ⟨rfl, q2, rfl⟩) | (go_at_call 50; refine (HPR.out _).mono ?_; rintro e1 w' ⟨rfl, rfl⟩) | (go_at_call 61; refine (HRO.out _).mono ?_; rintro e1 w' ⟨rfl, q3, rfl⟩))
        go_loop [15] (fun vx => ∃ x : Nat, vx = .int .i64 x ∧ x ≤ 1000 ∧ Hid (∀ u v, u < x → u ≤ v → u * u + v * v ≠ n)) (fun vx => 1001 - (intOf vx).toNat)
        case atStart => exact ⟨0, rfl, by omega, Lib.hid (by intro u v hu; omega)⟩
        case round =>
          obtain ⟨x, rfl, hx, hall⟩ := hrel
          have hsx := sq_int x 1000 hx
          have w1 : IntKind.i64.wrap (2 * (x : Int)) = 2 * (x : Int) := IntWalk.i64_in _ (by omega)
          have e2 : 2 * (x : Int) * x = 2 * ((x : Int) * x) := Int.mul_assoc _ _ _
          have w2 : IntKind.i64.wrap (2 * (x : Int) * x) = 2 * (x : Int) * x := IntWalk.i64_in _ (by omega)
          have wx : IntKind.i64.wrap ((x : Int) * x) = (x : Int) * x := IntWalk.i64_in _ (by omega)
          clear e2
          by_cases h : 2 * x * x ≤ n
          · have d1 : decide (2 * (x : Int) * x ≤ (n : Nat)) = true := by simp only [decide_eq_true_eq]; exact_mod_cast h
            have hx2 := two_small HN.out h
            clear h
            go_wp2_with fail
            go_loop [16] (fun vy => ∃ y : Nat, vy = .int .i64 y ∧ x ≤ y ∧ y ≤ 1001 ∧ Hid (∀ v, x ≤ v → v < y → x * x + v * v ≠ n)) (fun vy => 1002 - (intOf vy).toNat)
            case atStart => exact ⟨x, rfl, Nat.le_refl _, by omega, Lib.hid (by intro v h1 h2; omega)⟩
            case round =>
              obtain ⟨y, rfl, hxy, hy, hbel⟩ := hrel
              have hsy := sq_int y 1001 hy
              have wy : IntKind.i64.wrap ((y : Int) * y) = (y : Int) * y := IntWalk.i64_in _ (by omega)
              have wxy : IntKind.i64.wrap ((x : Int) * x + (y : Int) * y) = (x : Int) * x + (y : Int) * y := IntWalk.i64_in _ (by omega)
              by_cases h2 : x * x + y * y ≤ n
              · have d2 : decide ((x : Int) * x + (y : Int) * y ≤ (n : Nat)) = true := by simp only [decide_eq_true_eq]; exact_mod_cast h2
                have hy2 := sum_small HN.out h2
                by_cases h3 : x * x + y * y = n
                · have d3 : ((x : Int) * x + (y : Int) * y == ((n : Nat) : Int)) = true := by simp only [beq_iff_eq]; exact_mod_cast h3
                  obtain ⟨f1, f2, f3⟩ := HTI.out.of hxy h3 hall.out
                  have g1 : (X == (x : Int)) = true := by simpa using f1
                  have g2 : (Y == (y : Int)) = true := by simpa using f2
                  have g3 : (E3 == 0) = true := by simpa using f3
                  clear h2 h3 f1 f2 f3
                  go_wp2_with fail
                  go_ret
                  exact ⟨by simp, (by repeat (first | exact HB1.out | apply below_drewN))⟩
                · have d3 : ((x : Int) * x + (y : Int) * y == ((n : Nat) : Int)) = false := by simp only [beq_eq_false_iff_ne, ne_eq]; intro h4; exact h3 (by exact_mod_cast h4)
                  have hbel2 : Hid (∀ v, x ≤ v → v < y + 1 → x * x + v * v ≠ n) := by
                    intro v h4 h5
                    rcases Nat.lt_or_ge v y with h6 | h6
                    · exact hbel.out v h4 h6
                    · obtain rfl : v = y := by omega
                      exact h3
                  clear h2 h3
                  go_wp2_with fail
                  go_round
                  case rel => exact ⟨y + 1, by go_num, by omega, by omega, hbel2⟩
                  case measure => simp [intOf]; omega
              · have d2 : decide ((x : Int) * x + (y : Int) * y ≤ (n : Nat)) = false := by simp only [decide_eq_false_iff_not]; intro h3; exact h2 (by exact_mod_cast h3)
                have hall2 := Lib.hid (next_two' hbel.out h2 hall.out)
                clear h2
                go_wp2_with fail
                go_round
                case rel => exact ⟨x + 1, by go_num, by omega, hall2⟩
                case measure => simp [intOf]; omega
          · have d1 : decide (2 * (x : Int) * x ≤ (n : Nat)) = false := by simp only [decide_eq_false_iff_not]; intro h3; exact h (by exact_mod_cast h3)
            obtain ⟨f1, f2, f3⟩ := HTI.out.none (below_two h hall.out)
            have g1 : (X == 0) = true := by simpa using f1
            have g2 : (Y == 0) = true := by simpa using f2
            have g3 : (E3 == 4) = true := by simpa using f3
            clear h f1 f2 f3
            go_wp2_with fail
            go_ret
            exact ⟨by simp, (by repeat (first | exact HB1.out | apply below_drewN))⟩

set_option maxRecDepth 100000 in
set_option maxHeartbeats 8000000 in
theorem squareSays_odd (a : Int) (n : Nat) (p : Int) (w : World) (ha : -9223372036854775808 ≤ a) (ha' : a ≤ 9223372036854775807) (h1 : 1 ≤ n) (hn : n ≤ 1000000) (h2 : n % 2 = 1) :
    Calls Try.prog 9 #[.int .i64 a, .int .i64 n, .int .i64 p] w fun e w' => e = .returned (.bool true) ∧ Below w.heap.size w w' := by
  have f0 : decide ((n : Int) < 1) = false := by simp; omega
  have f1 : decide ((1000000 : Int) < n) = false := by simp; omega
  have f2 : ((n : Int) % 2 == 0) = false := by simp only [beq_eq_false_iff_ne, ne_eq]; omega
  have HS := Lib.hid (square_Symbol a n w ha ha' h1 hn h2)
  have HSO := Lib.hid (fun W => ref_SymbolOf a n W ha ha' h1 hn h2)
  have hjb := jac_bd a h1
  obtain ⟨J, hJ⟩ : ∃ J, jac a n = J := ⟨_, rfl⟩
  rw [hJ] at HS HSO hjb
  clear hJ
  obtain ⟨X, Y, E3, hti⟩ := two_exists n
  have HTI := Lib.hid hti
  have HT := Lib.hid (fun W => square_Two n W (by omega) X Y E3 HTI)
  have HN : Hid (n ≤ 1000000) := Lib.hid (by omega)
  clear hti
  by_cases hp1 : p < 2
  · have d1 : decide (p < 2) = true := decide_eq_true hp1
    have HR := Lib.hid (fun W => square_Root_bad' a p W (.inl hp1))
    go_enter Try.func9, Try.ntmps9
    go_wp2_with (first | (go_at_call 57; refine HS.out.mono ?_; rintro e1 w1 ⟨rfl, hb1⟩; have HB1 := Lib.hid hb1; clear hb1 HS) | (go_at_call 58; refine (HR.out _).mono ?_; rintro e1 w' ⟨rfl, q1, rfl⟩) | (go_at_call 59; refine (HT.out _).mono ?_; rintro e1 w' ⟨rfl, rfl⟩) | (go_at_call 60; refine (HSO.out _).mono ?_; rintro e1 w' ⟨rfl, q2, rfl⟩) | (go_at_call 50; refine (HPR.out _).mono ?_; rintro e1 w' ⟨rfl, rfl⟩) | (go_at_call 61; refine (HRO.out _).mono ?_; rintro e1 w' ⟨rfl, q3, rfl⟩))
    go_loop [15] (fun vx => ∃ x : Nat, vx = .int .i64 x ∧ x ≤ 1000 ∧ Hid (∀ u v, u < x → u ≤ v → u * u + v * v ≠ n)) (fun vx => 1001 - (intOf vx).toNat)
    case atStart => exact ⟨0, rfl, by omega, Lib.hid (by intro u v hu; omega)⟩
    case round =>
      obtain ⟨x, rfl, hx, hall⟩ := hrel
      have hsx := sq_int x 1000 hx
      have w1 : IntKind.i64.wrap (2 * (x : Int)) = 2 * (x : Int) := IntWalk.i64_in _ (by omega)
      have e2 : 2 * (x : Int) * x = 2 * ((x : Int) * x) := Int.mul_assoc _ _ _
      have w2 : IntKind.i64.wrap (2 * (x : Int) * x) = 2 * (x : Int) * x := IntWalk.i64_in _ (by omega)
      have wx : IntKind.i64.wrap ((x : Int) * x) = (x : Int) * x := IntWalk.i64_in _ (by omega)
      clear e2
      by_cases h : 2 * x * x ≤ n
      · have d1 : decide (2 * (x : Int) * x ≤ (n : Nat)) = true := by simp only [decide_eq_true_eq]; exact_mod_cast h
        have hx2 := two_small HN.out h
        clear h
        go_wp2_with fail
        go_loop [16] (fun vy => ∃ y : Nat, vy = .int .i64 y ∧ x ≤ y ∧ y ≤ 1001 ∧ Hid (∀ v, x ≤ v → v < y → x * x + v * v ≠ n)) (fun vy => 1002 - (intOf vy).toNat)
        case atStart => exact ⟨x, rfl, Nat.le_refl _, by omega, Lib.hid (by intro v h1 h2; omega)⟩
        case round =>
          obtain ⟨y, rfl, hxy, hy, hbel⟩ := hrel
          have hsy := sq_int y 1001 hy
          have wy : IntKind.i64.wrap ((y : Int) * y) = (y : Int) * y := IntWalk.i64_in _ (by omega)
          have wxy : IntKind.i64.wrap ((x : Int) * x + (y : Int) * y) = (x : Int) * x + (y : Int) * y := IntWalk.i64_in _ (by omega)
          by_cases h2 : x * x + y * y ≤ n
          · have d2 : decide ((x : Int) * x + (y : Int) * y ≤ (n : Nat)) = true := by simp only [decide_eq_true_eq]; exact_mod_cast h2
            have hy2 := sum_small HN.out h2
            by_cases h3 : x * x + y * y = n
            · have d3 : ((x : Int) * x + (y : Int) * y == ((n : Nat) : Int)) = true := by simp only [beq_iff_eq]; exact_mod_cast h3
              obtain ⟨f1, f2, f3⟩ := HTI.out.of hxy h3 hall.out
              have g1 : (X == (x : Int)) = true := by simpa using f1
              have g2 : (Y == (y : Int)) = true := by simpa using f2
              have g3 : (E3 == 0) = true := by simpa using f3
              clear h2 h3 f1 f2 f3
              go_wp2_with fail
              go_ret
              exact ⟨by simp, (by repeat (first | exact HB1.out | apply below_drewN))⟩
            · have d3 : ((x : Int) * x + (y : Int) * y == ((n : Nat) : Int)) = false := by simp only [beq_eq_false_iff_ne, ne_eq]; intro h4; exact h3 (by exact_mod_cast h4)
              have hbel2 : Hid (∀ v, x ≤ v → v < y + 1 → x * x + v * v ≠ n) := by
                intro v h4 h5
                rcases Nat.lt_or_ge v y with h6 | h6
                · exact hbel.out v h4 h6
                · obtain rfl : v = y := by omega
                  exact h3
              clear h2 h3
              go_wp2_with fail
              go_round
              case rel => exact ⟨y + 1, by go_num, by omega, by omega, hbel2⟩
              case measure => simp [intOf]; omega
          · have d2 : decide ((x : Int) * x + (y : Int) * y ≤ (n : Nat)) = false := by simp only [decide_eq_false_iff_not]; intro h3; exact h2 (by exact_mod_cast h3)
            have hall2 := Lib.hid (next_two' hbel.out h2 hall.out)
            clear h2
            go_wp2_with fail
            go_round
            case rel => exact ⟨x + 1, by go_num, by omega, hall2⟩
            case measure => simp [intOf]; omega
      · have d1 : decide (2 * (x : Int) * x ≤ (n : Nat)) = false := by simp only [decide_eq_false_iff_not]; intro h3; exact h (by exact_mod_cast h3)
        obtain ⟨f1, f2, f3⟩ := HTI.out.none (below_two h hall.out)
        have g1 : (X == 0) = true := by simpa using f1
        have g2 : (Y == 0) = true := by simpa using f2
        have g3 : (E3 == 4) = true := by simpa using f3
        clear h f1 f2 f3
        go_wp2_with fail
        go_ret
        exact ⟨by simp, (by repeat (first | exact HB1.out | apply below_drewN))⟩
  · have d1 : decide (p < 2) = false := decide_eq_false hp1
    by_cases hp2 : 1000000 < p
    · have d2 : decide (1000000 < p) = true := decide_eq_true hp2
      have HR := Lib.hid (fun W => square_Root_bad' a p W (.inr (.inl hp2)))
      go_enter Try.func9, Try.ntmps9
      go_wp2_with (first | (go_at_call 57; refine HS.out.mono ?_; rintro e1 w1 ⟨rfl, hb1⟩; have HB1 := Lib.hid hb1; clear hb1 HS) | (go_at_call 58; refine (HR.out _).mono ?_; rintro e1 w' ⟨rfl, q1, rfl⟩) | (go_at_call 59; refine (HT.out _).mono ?_; rintro e1 w' ⟨rfl, rfl⟩) | (go_at_call 60; refine (HSO.out _).mono ?_; rintro e1 w' ⟨rfl, q2, rfl⟩) | (go_at_call 50; refine (HPR.out _).mono ?_; rintro e1 w' ⟨rfl, rfl⟩) | (go_at_call 61; refine (HRO.out _).mono ?_; rintro e1 w' ⟨rfl, q3, rfl⟩))
      go_loop [15] (fun vx => ∃ x : Nat, vx = .int .i64 x ∧ x ≤ 1000 ∧ Hid (∀ u v, u < x → u ≤ v → u * u + v * v ≠ n)) (fun vx => 1001 - (intOf vx).toNat)
      case atStart => exact ⟨0, rfl, by omega, Lib.hid (by intro u v hu; omega)⟩
      case round =>
        obtain ⟨x, rfl, hx, hall⟩ := hrel
        have hsx := sq_int x 1000 hx
        have w1 : IntKind.i64.wrap (2 * (x : Int)) = 2 * (x : Int) := IntWalk.i64_in _ (by omega)
        have e2 : 2 * (x : Int) * x = 2 * ((x : Int) * x) := Int.mul_assoc _ _ _
        have w2 : IntKind.i64.wrap (2 * (x : Int) * x) = 2 * (x : Int) * x := IntWalk.i64_in _ (by omega)
        have wx : IntKind.i64.wrap ((x : Int) * x) = (x : Int) * x := IntWalk.i64_in _ (by omega)
        clear e2
        by_cases h : 2 * x * x ≤ n
        · have d1 : decide (2 * (x : Int) * x ≤ (n : Nat)) = true := by simp only [decide_eq_true_eq]; exact_mod_cast h
          have hx2 := two_small HN.out h
          clear h
          go_wp2_with fail
          go_loop [16] (fun vy => ∃ y : Nat, vy = .int .i64 y ∧ x ≤ y ∧ y ≤ 1001 ∧ Hid (∀ v, x ≤ v → v < y → x * x + v * v ≠ n)) (fun vy => 1002 - (intOf vy).toNat)
          case atStart => exact ⟨x, rfl, Nat.le_refl _, by omega, Lib.hid (by intro v h1 h2; omega)⟩
          case round =>
            obtain ⟨y, rfl, hxy, hy, hbel⟩ := hrel
            have hsy := sq_int y 1001 hy
            have wy : IntKind.i64.wrap ((y : Int) * y) = (y : Int) * y := IntWalk.i64_in _ (by omega)
            have wxy : IntKind.i64.wrap ((x : Int) * x + (y : Int) * y) = (x : Int) * x + (y : Int) * y := IntWalk.i64_in _ (by omega)
            by_cases h2 : x * x + y * y ≤ n
            · have d2 : decide ((x : Int) * x + (y : Int) * y ≤ (n : Nat)) = true := by simp only [decide_eq_true_eq]; exact_mod_cast h2
              have hy2 := sum_small HN.out h2
              by_cases h3 : x * x + y * y = n
              · have d3 : ((x : Int) * x + (y : Int) * y == ((n : Nat) : Int)) = true := by simp only [beq_iff_eq]; exact_mod_cast h3
                obtain ⟨f1, f2, f3⟩ := HTI.out.of hxy h3 hall.out
                have g1 : (X == (x : Int)) = true := by simpa using f1
                have g2 : (Y == (y : Int)) = true := by simpa using f2
                have g3 : (E3 == 0) = true := by simpa using f3
                clear h2 h3 f1 f2 f3
                go_wp2_with fail
                go_ret
                exact ⟨by simp, (by repeat (first | exact HB1.out | apply below_drewN))⟩
              · have d3 : ((x : Int) * x + (y : Int) * y == ((n : Nat) : Int)) = false := by simp only [beq_eq_false_iff_ne, ne_eq]; intro h4; exact h3 (by exact_mod_cast h4)
                have hbel2 : Hid (∀ v, x ≤ v → v < y + 1 → x * x + v * v ≠ n) := by
                  intro v h4 h5
                  rcases Nat.lt_or_ge v y with h6 | h6
                  · exact hbel.out v h4 h6
                  · obtain rfl : v = y := by omega
                    exact h3
                clear h2 h3
                go_wp2_with fail
                go_round
                case rel => exact ⟨y + 1, by go_num, by omega, by omega, hbel2⟩
                case measure => simp [intOf]; omega
            · have d2 : decide ((x : Int) * x + (y : Int) * y ≤ (n : Nat)) = false := by simp only [decide_eq_false_iff_not]; intro h3; exact h2 (by exact_mod_cast h3)
              have hall2 := Lib.hid (next_two' hbel.out h2 hall.out)
              clear h2
              go_wp2_with fail
              go_round
              case rel => exact ⟨x + 1, by go_num, by omega, hall2⟩
              case measure => simp [intOf]; omega
        · have d1 : decide (2 * (x : Int) * x ≤ (n : Nat)) = false := by simp only [decide_eq_false_iff_not]; intro h3; exact h (by exact_mod_cast h3)
          obtain ⟨f1, f2, f3⟩ := HTI.out.none (below_two h hall.out)
          have g1 : (X == 0) = true := by simpa using f1
          have g2 : (Y == 0) = true := by simpa using f2
          have g3 : (E3 == 4) = true := by simpa using f3
          clear h f1 f2 f3
          go_wp2_with fail
          go_ret
          exact ⟨by simp, (by repeat (first | exact HB1.out | apply below_drewN))⟩
    · have d2 : decide (1000000 < p) = false := decide_eq_false hp2
      obtain ⟨P, rfl⟩ : ∃ P : Nat, p = P := ⟨p.toNat, by omega⟩
      have hPn : P ≤ 1000000 := by omega
      have HPR := Lib.hid (fun W => ref_Prime P W hPn)
      by_cases hpr : IsPr P
      · rw [prB_true hpr] at HPR
        rcases root_cases a P with ⟨x, hx⟩ | hx
        · have HR := Lib.hid (fun W => square_Root a P W ha ha' hpr hPn x 0 (Lib.hid (.inl ⟨x, rfl, rfl, hx⟩)))
          have HRO := Lib.hid (fun W => ref_RootOf a P W ha ha' (by omega) hPn x (Lib.hid (.inl ⟨x, rfl, hx⟩)))
          have dx : decide ((x : Int) < 0) = false := by simp <;> omega
          clear hx hpr
          go_enter Try.func9, Try.ntmps9
          go_wp2_with (first | (go_at_call 57; refine HS.out.mono ?_; rintro e1 w1 ⟨rfl, hb1⟩; have HB1 := Lib.hid hb1; clear hb1 HS) | (go_at_call 58; refine (HR.out _).mono ?_; rintro e1 w' ⟨rfl, q1, rfl⟩) | (go_at_call 59; refine (HT.out _).mono ?_; rintro e1 w' ⟨rfl, rfl⟩) | (go_at_call 60; refine (HSO.out _).mono ?_; rintro e1 w' ⟨rfl, q2, rfl⟩) | (go_at_call 50; refine (HPR.out _).mono ?_; rintro e1 w' ⟨rfl, rfl⟩) | (go_at_call 61; refine (HRO.out _).mono ?_; rintro e1 w' ⟨rfl, q3, rfl⟩))
          go_loop [15] (fun vx => ∃ x : Nat, vx = .int .i64 x ∧ x ≤ 1000 ∧ Hid (∀ u v, u < x → u ≤ v → u * u + v * v ≠ n)) (fun vx => 1001 - (intOf vx).toNat)
          case atStart => exact ⟨0, rfl, by omega, Lib.hid (by intro u v hu; omega)⟩
          case round =>
            obtain ⟨x, rfl, hx, hall⟩ := hrel
            have hsx := sq_int x 1000 hx
            have w1 : IntKind.i64.wrap (2 * (x : Int)) = 2 * (x : Int) := IntWalk.i64_in _ (by omega)
            have e2 : 2 * (x : Int) * x = 2 * ((x : Int) * x) := Int.mul_assoc _ _ _
            have w2 : IntKind.i64.wrap (2 * (x : Int) * x) = 2 * (x : Int) * x := IntWalk.i64_in _ (by omega)
            have wx : IntKind.i64.wrap ((x : Int) * x) = (x : Int) * x := IntWalk.i64_in _ (by omega)
            clear e2
            by_cases h : 2 * x * x ≤ n
            · have d1 : decide (2 * (x : Int) * x ≤ (n : Nat)) = true := by simp only [decide_eq_true_eq]; exact_mod_cast h
              have hx2 := two_small HN.out h
              clear h
              go_wp2_with fail
              go_loop [16] (fun vy => ∃ y : Nat, vy = .int .i64 y ∧ x ≤ y ∧ y ≤ 1001 ∧ Hid (∀ v, x ≤ v → v < y → x * x + v * v ≠ n)) (fun vy => 1002 - (intOf vy).toNat)
              case atStart => exact ⟨x, rfl, Nat.le_refl _, by omega, Lib.hid (by intro v h1 h2; omega)⟩
              case round =>
                obtain ⟨y, rfl, hxy, hy, hbel⟩ := hrel
                have hsy := sq_int y 1001 hy
                have wy : IntKind.i64.wrap ((y : Int) * y) = (y : Int) * y := IntWalk.i64_in _ (by omega)
                have wxy : IntKind.i64.wrap ((x : Int) * x + (y : Int) * y) = (x : Int) * x + (y : Int) * y := IntWalk.i64_in _ (by omega)
                by_cases h2 : x * x + y * y ≤ n
                · have d2 : decide ((x : Int) * x + (y : Int) * y ≤ (n : Nat)) = true := by simp only [decide_eq_true_eq]; exact_mod_cast h2
                  have hy2 := sum_small HN.out h2
                  by_cases h3 : x * x + y * y = n
                  · have d3 : ((x : Int) * x + (y : Int) * y == ((n : Nat) : Int)) = true := by simp only [beq_iff_eq]; exact_mod_cast h3
                    obtain ⟨f1, f2, f3⟩ := HTI.out.of hxy h3 hall.out
                    have g1 : (X == (x : Int)) = true := by simpa using f1
                    have g2 : (Y == (y : Int)) = true := by simpa using f2
                    have g3 : (E3 == 0) = true := by simpa using f3
                    clear h2 h3 f1 f2 f3
                    go_wp2_with fail
                    go_ret
                    exact ⟨by simp, (by repeat (first | exact HB1.out | apply below_drewN))⟩
                  · have d3 : ((x : Int) * x + (y : Int) * y == ((n : Nat) : Int)) = false := by simp only [beq_eq_false_iff_ne, ne_eq]; intro h4; exact h3 (by exact_mod_cast h4)
                    have hbel2 : Hid (∀ v, x ≤ v → v < y + 1 → x * x + v * v ≠ n) := by
                      intro v h4 h5
                      rcases Nat.lt_or_ge v y with h6 | h6
                      · exact hbel.out v h4 h6
                      · obtain rfl : v = y := by omega
                        exact h3
                    clear h2 h3
                    go_wp2_with fail
                    go_round
                    case rel => exact ⟨y + 1, by go_num, by omega, by omega, hbel2⟩
                    case measure => simp [intOf]; omega
                · have d2 : decide ((x : Int) * x + (y : Int) * y ≤ (n : Nat)) = false := by simp only [decide_eq_false_iff_not]; intro h3; exact h2 (by exact_mod_cast h3)
                  have hall2 := Lib.hid (next_two' hbel.out h2 hall.out)
                  clear h2
                  go_wp2_with fail
                  go_round
                  case rel => exact ⟨x + 1, by go_num, by omega, hall2⟩
                  case measure => simp [intOf]; omega
            · have d1 : decide (2 * (x : Int) * x ≤ (n : Nat)) = false := by simp only [decide_eq_false_iff_not]; intro h3; exact h (by exact_mod_cast h3)
              obtain ⟨f1, f2, f3⟩ := HTI.out.none (below_two h hall.out)
              have g1 : (X == 0) = true := by simpa using f1
              have g2 : (Y == 0) = true := by simpa using f2
              have g3 : (E3 == 4) = true := by simpa using f3
              clear h f1 f2 f3
              go_wp2_with fail
              go_ret
              exact ⟨by simp, (by repeat (first | exact HB1.out | apply below_drewN))⟩
        · have HR := Lib.hid (fun W => square_Root a P W ha ha' hpr hPn 0 4 (Lib.hid (.inr ⟨rfl, rfl, hx⟩)))
          have HRO := Lib.hid (fun W => ref_RootOf a P W ha ha' (by omega) hPn (-1) (Lib.hid (.inr ⟨rfl, hx⟩)))
          clear hx hpr
          go_enter Try.func9, Try.ntmps9
          go_wp2_with (first | (go_at_call 57; refine HS.out.mono ?_; rintro e1 w1 ⟨rfl, hb1⟩; have HB1 := Lib.hid hb1; clear hb1 HS) | (go_at_call 58; refine (HR.out _).mono ?_; rintro e1 w' ⟨rfl, q1, rfl⟩) | (go_at_call 59; refine (HT.out _).mono ?_; rintro e1 w' ⟨rfl, rfl⟩) | (go_at_call 60; refine (HSO.out _).mono ?_; rintro e1 w' ⟨rfl, q2, rfl⟩) | (go_at_call 50; refine (HPR.out _).mono ?_; rintro e1 w' ⟨rfl, rfl⟩) | (go_at_call 61; refine (HRO.out _).mono ?_; rintro e1 w' ⟨rfl, q3, rfl⟩))
          go_loop [15] (fun vx => ∃ x : Nat, vx = .int .i64 x ∧ x ≤ 1000 ∧ Hid (∀ u v, u < x → u ≤ v → u * u + v * v ≠ n)) (fun vx => 1001 - (intOf vx).toNat)
          case atStart => exact ⟨0, rfl, by omega, Lib.hid (by intro u v hu; omega)⟩
          case round =>
            obtain ⟨x, rfl, hx, hall⟩ := hrel
            have hsx := sq_int x 1000 hx
            have w1 : IntKind.i64.wrap (2 * (x : Int)) = 2 * (x : Int) := IntWalk.i64_in _ (by omega)
            have e2 : 2 * (x : Int) * x = 2 * ((x : Int) * x) := Int.mul_assoc _ _ _
            have w2 : IntKind.i64.wrap (2 * (x : Int) * x) = 2 * (x : Int) * x := IntWalk.i64_in _ (by omega)
            have wx : IntKind.i64.wrap ((x : Int) * x) = (x : Int) * x := IntWalk.i64_in _ (by omega)
            clear e2
            by_cases h : 2 * x * x ≤ n
            · have d1 : decide (2 * (x : Int) * x ≤ (n : Nat)) = true := by simp only [decide_eq_true_eq]; exact_mod_cast h
              have hx2 := two_small HN.out h
              clear h
              go_wp2_with fail
              go_loop [16] (fun vy => ∃ y : Nat, vy = .int .i64 y ∧ x ≤ y ∧ y ≤ 1001 ∧ Hid (∀ v, x ≤ v → v < y → x * x + v * v ≠ n)) (fun vy => 1002 - (intOf vy).toNat)
              case atStart => exact ⟨x, rfl, Nat.le_refl _, by omega, Lib.hid (by intro v h1 h2; omega)⟩
              case round =>
                obtain ⟨y, rfl, hxy, hy, hbel⟩ := hrel
                have hsy := sq_int y 1001 hy
                have wy : IntKind.i64.wrap ((y : Int) * y) = (y : Int) * y := IntWalk.i64_in _ (by omega)
                have wxy : IntKind.i64.wrap ((x : Int) * x + (y : Int) * y) = (x : Int) * x + (y : Int) * y := IntWalk.i64_in _ (by omega)
                by_cases h2 : x * x + y * y ≤ n
                · have d2 : decide ((x : Int) * x + (y : Int) * y ≤ (n : Nat)) = true := by simp only [decide_eq_true_eq]; exact_mod_cast h2
                  have hy2 := sum_small HN.out h2
                  by_cases h3 : x * x + y * y = n
                  · have d3 : ((x : Int) * x + (y : Int) * y == ((n : Nat) : Int)) = true := by simp only [beq_iff_eq]; exact_mod_cast h3
                    obtain ⟨f1, f2, f3⟩ := HTI.out.of hxy h3 hall.out
                    have g1 : (X == (x : Int)) = true := by simpa using f1
                    have g2 : (Y == (y : Int)) = true := by simpa using f2
                    have g3 : (E3 == 0) = true := by simpa using f3
                    clear h2 h3 f1 f2 f3
                    go_wp2_with fail
                    go_ret
                    exact ⟨by simp, (by repeat (first | exact HB1.out | apply below_drewN))⟩
                  · have d3 : ((x : Int) * x + (y : Int) * y == ((n : Nat) : Int)) = false := by simp only [beq_eq_false_iff_ne, ne_eq]; intro h4; exact h3 (by exact_mod_cast h4)
                    have hbel2 : Hid (∀ v, x ≤ v → v < y + 1 → x * x + v * v ≠ n) := by
                      intro v h4 h5
                      rcases Nat.lt_or_ge v y with h6 | h6
                      · exact hbel.out v h4 h6
                      · obtain rfl : v = y := by omega
                        exact h3
                    clear h2 h3
                    go_wp2_with fail
                    go_round
                    case rel => exact ⟨y + 1, by go_num, by omega, by omega, hbel2⟩
                    case measure => simp [intOf]; omega
                · have d2 : decide ((x : Int) * x + (y : Int) * y ≤ (n : Nat)) = false := by simp only [decide_eq_false_iff_not]; intro h3; exact h2 (by exact_mod_cast h3)
                  have hall2 := Lib.hid (next_two' hbel.out h2 hall.out)
                  clear h2
                  go_wp2_with fail
                  go_round
                  case rel => exact ⟨x + 1, by go_num, by omega, hall2⟩
                  case measure => simp [intOf]; omega
            · have d1 : decide (2 * (x : Int) * x ≤ (n : Nat)) = false := by simp only [decide_eq_false_iff_not]; intro h3; exact h (by exact_mod_cast h3)
              obtain ⟨f1, f2, f3⟩ := HTI.out.none (below_two h hall.out)
              have g1 : (X == 0) = true := by simpa using f1
              have g2 : (Y == 0) = true := by simpa using f2
              have g3 : (E3 == 4) = true := by simpa using f3
              clear h f1 f2 f3
              go_wp2_with fail
              go_ret
              exact ⟨by simp, (by repeat (first | exact HB1.out | apply below_drewN))⟩
      · rw [prB_false hpr] at HPR
        have HR := Lib.hid (fun W => square_Root_bad' a P W (.inr (.inr (by simpa using hpr))))
        clear hpr
        go_enter Try.func9, Try.ntmps9
        go_wp2_with (first | (go_at_call 57; refine HS.out.mono ?_; rintro e1 w1 ⟨rfl, hb1⟩; have HB1 := Lib.hid hb1; clear hb1 HS) | (go_at_call 58; refine (HR.out _).mono ?_; rintro e1 w' ⟨rfl, q1, rfl⟩) | (go_at_call 59; refine (HT.out _).mono ?_; rintro e1 w' ⟨rfl, rfl⟩) | (go_at_call 60; refine (HSO.out _).mono ?_; rintro e1 w' ⟨rfl, q2, rfl⟩) | (go_at_call 50; refine (HPR.out _).mono ?_; rintro e1 w' ⟨rfl, rfl⟩) | (go_at_call 61; refine (HRO.out _).mono ?_; rintro e1 w' ⟨rfl, q3, rfl⟩))
        go_loop [15] (fun vx => ∃ x : Nat, vx = .int .i64 x ∧ x ≤ 1000 ∧ Hid (∀ u v, u < x → u ≤ v → u * u + v * v ≠ n)) (fun vx => 1001 - (intOf vx).toNat)
        case atStart => exact ⟨0, rfl, by omega, Lib.hid (by intro u v hu; omega)⟩
        case round =>
          obtain ⟨x, rfl, hx, hall⟩ := hrel
          have hsx := sq_int x 1000 hx
          have w1 : IntKind.i64.wrap (2 * (x : Int)) = 2 * (x : Int) := IntWalk.i64_in _ (by omega)
          have e2 : 2 * (x : Int) * x = 2 * ((x : Int) * x) := Int.mul_assoc _ _ _
          have w2 : IntKind.i64.wrap (2 * (x : Int) * x) = 2 * (x : Int) * x := IntWalk.i64_in _ (by omega)
          have wx : IntKind.i64.wrap ((x : Int) * x) = (x : Int) * x := IntWalk.i64_in _ (by omega)
          clear e2
          by_cases h : 2 * x * x ≤ n
          · have d1 : decide (2 * (x : Int) * x ≤ (n : Nat)) = true := by simp only [decide_eq_true_eq]; exact_mod_cast h
            have hx2 := two_small HN.out h
            clear h
            go_wp2_with fail
            go_loop [16] (fun vy => ∃ y : Nat, vy = .int .i64 y ∧ x ≤ y ∧ y ≤ 1001 ∧ Hid (∀ v, x ≤ v → v < y → x * x + v * v ≠ n)) (fun vy => 1002 - (intOf vy).toNat)
            case atStart => exact ⟨x, rfl, Nat.le_refl _, by omega, Lib.hid (by intro v h1 h2; omega)⟩
            case round =>
              obtain ⟨y, rfl, hxy, hy, hbel⟩ := hrel
              have hsy := sq_int y 1001 hy
              have wy : IntKind.i64.wrap ((y : Int) * y) = (y : Int) * y := IntWalk.i64_in _ (by omega)
              have wxy : IntKind.i64.wrap ((x : Int) * x + (y : Int) * y) = (x : Int) * x + (y : Int) * y := IntWalk.i64_in _ (by omega)
              by_cases h2 : x * x + y * y ≤ n
              · have d2 : decide ((x : Int) * x + (y : Int) * y ≤ (n : Nat)) = true := by simp only [decide_eq_true_eq]; exact_mod_cast h2
                have hy2 := sum_small HN.out h2
                by_cases h3 : x * x + y * y = n
                · have d3 : ((x : Int) * x + (y : Int) * y == ((n : Nat) : Int)) = true := by simp only [beq_iff_eq]; exact_mod_cast h3
                  obtain ⟨f1, f2, f3⟩ := HTI.out.of hxy h3 hall.out
                  have g1 : (X == (x : Int)) = true := by simpa using f1
                  have g2 : (Y == (y : Int)) = true := by simpa using f2
                  have g3 : (E3 == 0) = true := by simpa using f3
                  clear h2 h3 f1 f2 f3
                  go_wp2_with fail
                  go_ret
                  exact ⟨by simp, (by repeat (first | exact HB1.out | apply below_drewN))⟩
                · have d3 : ((x : Int) * x + (y : Int) * y == ((n : Nat) : Int)) = false := by simp only [beq_eq_false_iff_ne, ne_eq]; intro h4; exact h3 (by exact_mod_cast h4)
                  have hbel2 : Hid (∀ v, x ≤ v → v < y + 1 → x * x + v * v ≠ n) := by
                    intro v h4 h5
                    rcases Nat.lt_or_ge v y with h6 | h6
                    · exact hbel.out v h4 h6
                    · obtain rfl : v = y := by omega
                      exact h3
                  clear h2 h3
                  go_wp2_with fail
                  go_round
                  case rel => exact ⟨y + 1, by go_num, by omega, by omega, hbel2⟩
                  case measure => simp [intOf]; omega
              · have d2 : decide ((x : Int) * x + (y : Int) * y ≤ (n : Nat)) = false := by simp only [decide_eq_false_iff_not]; intro h3; exact h2 (by exact_mod_cast h3)
                have hall2 := Lib.hid (next_two' hbel.out h2 hall.out)
                clear h2
                go_wp2_with fail
                go_round
                case rel => exact ⟨x + 1, by go_num, by omega, hall2⟩
                case measure => simp [intOf]; omega
          · have d1 : decide (2 * (x : Int) * x ≤ (n : Nat)) = false := by simp only [decide_eq_false_iff_not]; intro h3; exact h (by exact_mod_cast h3)
            obtain ⟨f1, f2, f3⟩ := HTI.out.none (below_two h hall.out)
            have g1 : (X == 0) = true := by simpa using f1
            have g2 : (Y == 0) = true := by simpa using f2
            have g3 : (E3 == 4) = true := by simpa using f3
            clear h f1 f2 f3
            go_wp2_with fail
            go_ret
            exact ⟨by simp, (by repeat (first | exact HB1.out | apply below_drewN))⟩

theorem squareSays_walk (a n p : Int) (w : World) (ha : (Lit.int .i64 a).wf = true) (_ : (Lit.int .i64 n).wf = true) (_ : (Lit.int .i64 p).wf = true) :
    Calls Try.prog 9 #[.int .i64 a, .int .i64 n, .int .i64 p] w fun e w' => e = .returned (.bool true) ∧ Below w.heap.size w w' := by
  have hab : -9223372036854775808 ≤ a ∧ a ≤ 9223372036854775807 := by simpa [Lit.wf, IntKind.min, IntKind.max, IntKind.signed, IntKind.bits] using ha
  by_cases h0 : n < 0
  · exact squareSays_neg a n p w hab.1 hab.2 h0
  · by_cases h1 : n = 0
    · subst h1; exact squareSays_nul a (0 : Nat) p w hab.1 hab.2 (by omega)
    · by_cases h2 : 1000000 < n
      · exact squareSays_big a n p w hab.1 hab.2 h2
      · obtain ⟨m, rfl⟩ : ∃ m : Nat, n = m := ⟨n.toNat, by omega⟩
        rcases Nat.mod_two_eq_zero_or_one m with h | h
        · exact squareSays_even a m p w hab.1 hab.2 (by omega) (by omega) h
        · exact squareSays_odd a m p w hab.1 hab.2 (by omega) (by omega) h
end Go.Proofs.Ytkincmkmkfiglaa
