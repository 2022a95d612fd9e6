/- PrimeSays: for arbitrary numbers the functions of package prime answer what the document says. Conditions: none. -/
import Derived.Test.YtonphmkilikapaaRows
import Derived.Test.YtonphmkilikapaaFactor
namespace Go.Proofs.Ytonphmkilikapaa
open Go.RowKit

theorem powCells_at (l : List (Nat × Nat)) (k : Nat) (a : Nat × Nat) (h : l[k]? = some a) : (powCells l)[k * 2]? = some (.int .i64 a.1) ∧ (powCells l)[k * 2 + 1]? = some (.int .i64 a.2) := by
  induction l generalizing k with
  | nil => simp at h
  | cons b l ih =>
    cases k with
    | zero => simp at h; subst h; simp [powCells]
    | succ k =>
      simp at h
      have := ih k h
      have e1 : (k + 1) * 2 = k * 2 + 2 := by omega
      rw [e1]
      simpa [powCells] using this
theorem take_snoc' {α : Type} (l : List α) (k : Nat) (a : α) (h : l[k]? = some a) : l.take (k + 1) = l.take k ++ [a] := by
  obtain ⟨hl, he⟩ := List.getElem?_eq_some_iff.1 h
  rw [List.take_succ_eq_append_getElem hl, he]
theorem prodPow_pos {l : List (Nat × Nat)} (h : ∀ a ∈ l, IsPr a.1 ∧ 1 ≤ a.2) : 1 ≤ prodPow l := by
  induction l with
  | nil => simp [prodPow]
  | cons b l ih =>
    simp only [prodPow]
    have h1 := ih fun a ha => h a (List.mem_cons_of_mem _ ha)
    have h2 : 0 < b.1 ^ b.2 := Nat.pow_pos (by have := (h b (List.mem_cons_self ..)).1.1; omega)
    exact Nat.mul_pos h2 h1
theorem prodPow_step {n : Nat} {l : List (Nat × Nat)} (hf : Factors n l) {k : Nat} {a : Nat × Nat} (h : l[k]? = some a) (j : Nat) (hj : j ≤ a.2) : prodPow (l.take k) * a.1 ^ j ≤ n := by
  have e : l = l.take k ++ [a] ++ l.drop (k + 1) := by
    rw [← take_snoc' l k a h, List.take_append_drop]
  have hp := hf.prod
  rw [e, prodPow_append, prodPow_append] at hp
  have h1 : 1 ≤ prodPow (l.drop (k + 1)) := prodPow_pos fun b hb => hf.pr b (List.mem_of_mem_drop hb)
  have hm : a ∈ l := List.mem_of_getElem? h
  have h2 : a.1 ^ j ≤ a.1 ^ a.2 := Nat.pow_le_pow_right (by have := (hf.pr a hm).1.1; omega) hj
  simp only [prodPow, Nat.mul_one] at hp
  calc prodPow (l.take k) * a.1 ^ j ≤ prodPow (l.take k) * a.1 ^ a.2 := Nat.mul_le_mul_left _ h2
    _ = prodPow (l.take k) * a.1 ^ a.2 * 1 := by rw [Nat.mul_one]
    _ ≤ prodPow (l.take k) * a.1 ^ a.2 * prodPow (l.drop (k + 1)) := Nat.mul_le_mul_left _ h1
    _ = n := hp
theorem exp_le {n : Nat} {l : List (Nat × Nat)} (hf : Factors n l) {a : Nat × Nat} (h : a ∈ l) : a.1 ≤ n ∧ a.2 ≤ n := by
  obtain ⟨k, hk⟩ := List.getElem?_of_mem h
  have h0 := prodPow_step hf hk a.2 (Nat.le_refl _)
  have hpos : 1 ≤ prodPow (l.take k) := prodPow_pos fun b hb => hf.pr b (List.mem_of_mem_take hb)
  have h1 : a.1 ^ a.2 ≤ n := Nat.le_trans (by have := Nat.mul_le_mul_right (a.1 ^ a.2) hpos; omega) h0
  have hp := hf.pr a h
  have h2 : 2 ^ a.2 ≤ a.1 ^ a.2 := Nat.pow_le_pow_left hp.1.1 _
  have h3 : a.2 < 2 ^ a.2 := Nat.lt_two_pow_self
  have h4 : a.1 ^ 1 ≤ a.1 ^ a.2 := Nat.pow_le_pow_right (by have := hp.1.1; omega) hp.2
  rw [Nat.pow_one] at h4
  omega

set_option maxRecDepth 100000 in
set_option maxHeartbeats 1000000 in
theorem primeSays_bad (n : Int) (w : World) (h : n < 0 ∨ 1000000 < n) :
    Calls Try.prog 6 #[.int .i64 n] w fun e w' => e = .returned (.bool true) ∧ Below w.heap.size w w' := by
  by_cases h1 : n < 0
  · go_enter Try.func6, Try.ntmps6
    go_wp2_with (first | (go_at_call 30; refine (prime_Is_bad n _ (by omega)).mono ?_; rintro e w' ⟨rfl, rfl⟩) | (go_at_call 31; refine (prime_Next_bad n _ (by omega)).mono ?_; rintro e w' ⟨rfl, rfl⟩) | (go_at_call 32; refine (prime_Factor_bad n _ (by omega)).mono ?_; rintro e w' ⟨rfl, rfl⟩))
    go_ret
    exact ⟨rfl, (by repeat (first | exact Below.refl _ _ | apply below_drewN | (refine Below.alloc ?_ (by simp) _)))⟩
  · have h2 : decide (1000000 < n) = true := by simp; omega
    go_enter Try.func6, Try.ntmps6
    go_wp2_with (first | (go_at_call 30; refine (prime_Is_bad n _ (by omega)).mono ?_; rintro e w' ⟨rfl, rfl⟩) | (go_at_call 31; refine (prime_Next_bad n _ (by omega)).mono ?_; rintro e w' ⟨rfl, rfl⟩) | (go_at_call 32; refine (prime_Factor_bad n _ (by omega)).mono ?_; rintro e w' ⟨rfl, rfl⟩))
    go_ret
    exact ⟨rfl, (by repeat (first | exact Below.refl _ _ | apply below_drewN | (refine Below.alloc ?_ (by simp) _)))⟩

set_option maxRecDepth 100000 in
set_option maxHeartbeats 1000000 in
theorem primeSays_zero (w : World) :
    Calls Try.prog 6 #[.int .i64 0] w fun e w' => e = .returned (.bool true) ∧ Below w.heap.size w w' := by
  have p0 : prB 0 = false := prB_false fun h => by have := h.1; omega
  have p1 : prB 1 = false := prB_false fun h => by have := h.1; omega
  have p2 : prB 2 = true := prB_true ((isPr_small 2 (by omega)).2 (.inl rfl))
  have hn : nextI 0 = (2, 0) := nextI_some (p := 2) ⟨by omega, by omega, prB_iff.1 p2, fun q h1 h2 => by
    have : q = 0 ∨ q = 1 := by omega
    rcases this with h | h
    · subst h; exact prB_iff'.1 p0
    · subst h; exact prB_iff'.1 p1⟩
  have cI := (prime_Is 0 w (by omega))
  have cN := (prime_Next 0 w (by omega))
  rw [p0] at cI
  rw [hn] at cN
  have CI := Lib.hid cI
  have CN := Lib.hid cN
  have P0 := Lib.hid p0; have P1 := Lib.hid p1; have P2 := Lib.hid p2
  clear cI cN p0 p1 p2 hn
  go_enter Try.func6, Try.ntmps6
  go_wp2_with (first | (go_at_call 30; refine CI.out.mono ?_; rintro e w' ⟨rfl, rfl⟩) | (go_at_call 31; refine CN.out.mono ?_; rintro e w' ⟨rfl, rfl⟩) | (go_at_call 32; refine (prime_Factor_bad 0 _ (by omega)).mono ?_; rintro e w' ⟨rfl, rfl⟩) | (go_at_call 33; refine (ref_Prime 0 _ (by omega)).mono ?_; rw [P0.out]; rintro e w' ⟨rfl, rfl⟩))
  refine wp_loop_rounds 3 ?_
  rw [rounds_succ]
  go_wp2_with fail
  refine (ref_Prime 0 _ (by omega)).mono ?_; rw [P0.out]; rintro e w' ⟨rfl, rfl⟩
  go_wp2_with fail
  rw [rounds_succ]
  go_wp2_with fail
  refine (ref_Prime 1 _ (by omega)).mono ?_; rw [P1.out]; rintro e w' ⟨rfl, rfl⟩
  go_wp2_with fail
  rw [rounds_succ]
  go_wp2_with fail
  refine (ref_Prime 2 _ (by omega)).mono ?_; rw [P2.out]; rintro e w' ⟨rfl, rfl⟩
  go_wp2_with fail
  go_ret
  exact ⟨rfl, (by repeat (first | exact Below.refl _ _ | apply below_drewN | (refine Below.alloc ?_ (by simp) _)))⟩

/-- The first prime from n on, and the law's own search for it. -/
theorem next_search (n d : Nat) (hd : n ≤ d) (hd2 : d ≤ 1000001) (hno : ∀ q, n ≤ q → q < d → ¬ IsPr q) (hend : d = 1000001 ∨ IsPr d) :
    (d = 1000001 ∧ nextI n = (0, 4)) ∨ (d ≤ 1000000 ∧ nextI n = ((d : Int), 0)) := by
  by_cases h : d = 1000001
  · exact .inl ⟨h, nextI_none fun q h1 h2 => hno q h1 (by omega)⟩
  · rcases hend with h1 | h1
    · exact absurd h1 h
    · exact .inr ⟨by omega, nextI_some ⟨hd, by omega, h1, hno⟩⟩

set_option maxRecDepth 100000 in
set_option maxHeartbeats 2000000 in
theorem primeSays_ok (n : Nat) (w : World) (h1 : 1 ≤ n) (hn : n ≤ 1000000) :
    Calls Try.prog 6 #[.int .i64 n] w fun e w' => e = .returned (.bool true) ∧ Below w.heap.size w w' := by
  have d1 : decide ((1000000 : Int) < n) = false := by simp; omega
  have d2 : ((n : Int) == 0) = false := by simp; omega
  have hbb : (prB n != prB n) = false := by simp
  go_enter Try.func6, Try.ntmps6
  go_wp2_with (first | (go_at_call 30; refine (prime_Is n _ hn).mono ?_; rintro e w' ⟨rfl, rfl⟩) | (go_at_call 31; refine (prime_Next n _ hn).mono ?_; rintro e w' ⟨rfl, rfl⟩))
  refine (prime_Factor n _ h1 hn).mono ?_
  rintro e w1 ⟨l, v, hF, hll, rfl, hown, hbel⟩
  obtain ⟨ao, cp, rfl, hR, hnone, hmx⟩ := own_reads hown
  have HF := Lib.hid hF
  have HR := Lib.hid hR
  clear hnone hown hF hR
  go_wp2_with (go_at_call 33; refine (ref_Prime n _ hn).mono ?_; rintro e w' ⟨rfl, rfl⟩)
  go_loop [9] (fun vd => ∃ d : Nat, vd = .int .i64 d ∧ n ≤ d ∧ d ≤ 1000001 ∧ Hid (∀ q, n ≤ q → q < d → ¬ IsPr q)) (fun vd => 1000001 - (intOf vd).toNat)
  case atStart => exact ⟨n, rfl, by omega, by omega, fun q h1 h2 => by omega⟩
  case round =>
    obtain ⟨d, rfl, hd, hd2, hno⟩ := hrel
    by_cases hgo : d ≤ 1000000 ∧ prB d = false
    · obtain ⟨hlast, hp⟩ := hgo
      have HN : Hid (∀ q, n ≤ q → q < d + 1 → ¬ IsPr q) := by
        intro q h1 h2
        by_cases he : q = d
        · subst he; exact prB_iff'.1 hp
        · exact hno.out q h1 (by omega)
      have HP := Lib.hid hp
      clear hp
      go_wp2_with (go_at_call 33; refine (ref_Prime d _ hlast).mono ?_; rw [HP.out]; rintro e w' ⟨rfl, rfl⟩)
      go_round
      case rel => exact ⟨d + 1, by go_num, by omega, by omega, HN⟩
      case measure => simp [intOf]; omega
    · have hs := next_search n d hd hd2 hno.out (by
        by_cases h5 : d = 1000001
        · exact .inl h5
        · refine .inr (prB_iff.1 ?_)
          cases h6 : prB d with
          | true => rfl
          | false => exact absurd ⟨by omega, h6⟩ hgo)
      have hgo2 : d ≤ 1000000 → prB d = true := fun h5 => by
        cases h6 : prB d with
        | true => rfl
        | false => exact absurd ⟨h5, h6⟩ hgo
      have HG := Lib.hid hgo2
      clear hgo hgo2
      rcases hs with ⟨hde, hnx⟩ | ⟨hde, hnx⟩
      · subst hde
        go_wp2_with fail
        go_loopw [10, 11, 104] (fun vall vlast vi wr => ∃ k last : Nat, vi = .int .i64 k ∧ k ≤ l.length ∧ vall = .int .i64 (prodPow (l.take k) : Nat) ∧ vlast = .int .i64 last ∧ last ≤ 1000000 ∧ Hid (∀ j a, k ≤ j → l[j]? = some a → last < a.1) ∧ Below w1.heap.size w1 wr) (fun _ _ vi _ => l.length - (intOf vi).toNat)
        case atStart => exact ⟨0, 1, rfl, by omega, rfl, rfl, by omega, by
          intro j a _ ha
          have := (HF.out.pr a (List.mem_of_getElem? ha)).1.1
          omega, Below.refl _ _⟩
        case round =>
          obtain ⟨k, last, rfl, hk, rfl, rfl, hl1, hlast, hbel2⟩ := hrel
          by_cases hkl : k < l.length
          · obtain ⟨a, ha⟩ : ∃ a, l[k]? = some a := ⟨l[k], List.getElem?_eq_getElem _⟩
            have hma := List.mem_of_getElem? ha
            obtain ⟨P, N⟩ := a
            obtain ⟨hP, hN1⟩ := HF.out.pr _ hma
            obtain ⟨hPn, hNn⟩ := exp_le HF.out hma
            simp only at hP hN1 hPn hNn
            have hPlast := hlast.out k _ (Nat.le_refl _) ha
            simp only at hPlast
            have hall := prodPow_step HF.out ha
            simp only at hall
            have HALL := Lib.hid hall
            have hall0 : prodPow (l.take k) ≤ n := by have := hall 0 (by omega); simpa using this
            have hc1 := powCells_at l k _ ha
            have hR2 := (HR.out).below hbel2
            obtain ⟨b, o, rfl, hcell1⟩ := hR2 _ _ hc1.1
            obtain ⟨b', o', hbo, hcell2⟩ := hR2 _ _ hc1.2
            simp only [Option.some.injEq, Addr.mk.injEq, and_true] at hbo
            obtain ⟨rfl, rfl⟩ := hbo
            have HPr := Lib.hid (prB_true hP)
            have hmono : Hid (∀ j a, k + 1 ≤ j → l[j]? = some a → P < a.1) := by
              intro j a hj hja
              have hpw := HF.out.inc
              rw [List.pairwise_iff_getElem] at hpw
              obtain ⟨h5, h6⟩ := List.getElem?_eq_some_iff.1 ha
              obtain ⟨h7, h8⟩ := List.getElem?_eq_some_iff.1 hja
              have := hpw k j h5 h7 (by omega)
              rw [h6, h8] at this
              exact this
            have HT := Lib.hid (take_snoc' l k _ ha)
            have dN : decide ((N : Int) < 1) = false := by simp; omega
            clear hP hR2 hc1 hall ha hma
            have hcell1' : wr.cell? ⟨b, o + k * 2, none⟩ = some (.int .i64 P) := hcell1
            have hcell2' : wr.cell? ⟨b, o + k * 2 + 1, none⟩ = some (.int .i64 N) := hcell2
            go_wp2_with (go_at_call 33; refine (ref_Prime P _ (by omega)).mono ?_; rw [HPr.out]; rintro e w' ⟨rfl, rfl⟩)
            go_loop [10, 127] (fun vall vj => ∃ j A : Nat, vj = .int .i64 j ∧ j ≤ N ∧ vall = .int .i64 A ∧ A ≤ n ∧ Hid (A = prodPow (l.take k) * P ^ j)) (fun _ vj => N - (intOf vj).toNat)
            case atStart => exact ⟨0, _, rfl, by omega, rfl, hall0, by show _ = _; simp⟩
            case round =>
              obtain ⟨j, A, rfl, hj, rfl, hA, hAe⟩ := hrel
              by_cases hjN : j < N
              · have hAP : A * P ≤ n := by
                  have := HALL.out (j + 1) (by omega)
                  rw [hAe.out, Nat.mul_assoc, ← Nat.pow_succ]; exact this
                have q0 : 0 ≤ (A : Int) * P := Int.mul_nonneg (by omega) (by omega)
                have q1 : (A : Int) * P ≤ n := by have e : (A : Int) * P = ((A * P : Nat) : Int) := by { push_cast; rfl }
                                                  rw [e]; omega
                have hA2 : Hid (A * P = prodPow (l.take k) * P ^ (j + 1)) := by
                  show _ = _
                  rw [hAe.out, Nat.mul_assoc, ← Nat.pow_succ]
                go_wp2_with fail
                go_round
                case rel => exact ⟨j + 1, A * P, by go_num, by omega, by rw [Int.natCast_mul], hAP, hA2⟩
                case measure => simp [intOf]; omega
              · obtain rfl : j = N := by omega
                have hA3 : Hid (A = prodPow (l.take (k + 1))) := by
                  show _ = _
                  rw [HT.out, prodPow_append]
                  simp only [prodPow, Nat.mul_one]
                  exact hAe.out
                go_wp2_with fail
                go_roundw
                case rel => exact ⟨k + 1, P, by go_num, by omega, by rw [← hA3.out], rfl, by omega, hmono, hbel2.trans ((Below.refl _ _).alloc hbel2.size _)⟩
                case measure => simp [intOf]; omega
          · obtain rfl : k = l.length := by omega
            have hfin : Hid ((((prodPow l : Nat) : Int) == (n : Int)) = true) := by
              show _ = _
              rw [HF.out.prod]; simp
            go_wp2_with fail
            go_ret
            exact ⟨ret_bool hfin.out, hbel.trans (hbel2.mono hbel.size)⟩
      · have HPd := Lib.hid (HG.out hde)
        go_wp2_with (go_at_call 33; refine (ref_Prime d _ hde).mono ?_; rw [HPd.out]; rintro e w' ⟨rfl, rfl⟩)
        go_loopw [10, 11, 104] (fun vall vlast vi wr => ∃ k last : Nat, vi = .int .i64 k ∧ k ≤ l.length ∧ vall = .int .i64 (prodPow (l.take k) : Nat) ∧ vlast = .int .i64 last ∧ last ≤ 1000000 ∧ Hid (∀ j a, k ≤ j → l[j]? = some a → last < a.1) ∧ Below w1.heap.size w1 wr) (fun _ _ vi _ => l.length - (intOf vi).toNat)
        case atStart => exact ⟨0, 1, rfl, by omega, rfl, rfl, by omega, by
          intro j a _ ha
          have := (HF.out.pr a (List.mem_of_getElem? ha)).1.1
          omega, Below.refl _ _⟩
        case round =>
          obtain ⟨k, last, rfl, hk, rfl, rfl, hl1, hlast, hbel2⟩ := hrel
          by_cases hkl : k < l.length
          · obtain ⟨a, ha⟩ : ∃ a, l[k]? = some a := ⟨l[k], List.getElem?_eq_getElem _⟩
            have hma := List.mem_of_getElem? ha
            obtain ⟨P, N⟩ := a
            obtain ⟨hP, hN1⟩ := HF.out.pr _ hma
            obtain ⟨hPn, hNn⟩ := exp_le HF.out hma
            simp only at hP hN1 hPn hNn
            have hPlast := hlast.out k _ (Nat.le_refl _) ha
            simp only at hPlast
            have hall := prodPow_step HF.out ha
            simp only at hall
            have HALL := Lib.hid hall
            have hall0 : prodPow (l.take k) ≤ n := by have := hall 0 (by omega); simpa using this
            have hc1 := powCells_at l k _ ha
            have hR2 := (HR.out).below hbel2
            obtain ⟨b, o, rfl, hcell1⟩ := hR2 _ _ hc1.1
            obtain ⟨b', o', hbo, hcell2⟩ := hR2 _ _ hc1.2
            simp only [Option.some.injEq, Addr.mk.injEq, and_true] at hbo
            obtain ⟨rfl, rfl⟩ := hbo
            have HPr := Lib.hid (prB_true hP)
            have hmono : Hid (∀ j a, k + 1 ≤ j → l[j]? = some a → P < a.1) := by
              intro j a hj hja
              have hpw := HF.out.inc
              rw [List.pairwise_iff_getElem] at hpw
              obtain ⟨h5, h6⟩ := List.getElem?_eq_some_iff.1 ha
              obtain ⟨h7, h8⟩ := List.getElem?_eq_some_iff.1 hja
              have := hpw k j h5 h7 (by omega)
              rw [h6, h8] at this
              exact this
            have HT := Lib.hid (take_snoc' l k _ ha)
            have dN : decide ((N : Int) < 1) = false := by simp; omega
            clear hP hR2 hc1 hall ha hma
            have hcell1' : wr.cell? ⟨b, o + k * 2, none⟩ = some (.int .i64 P) := hcell1
            have hcell2' : wr.cell? ⟨b, o + k * 2 + 1, none⟩ = some (.int .i64 N) := hcell2
            go_wp2_with (go_at_call 33; refine (ref_Prime P _ (by omega)).mono ?_; rw [HPr.out]; rintro e w' ⟨rfl, rfl⟩)
            go_loop [10, 127] (fun vall vj => ∃ j A : Nat, vj = .int .i64 j ∧ j ≤ N ∧ vall = .int .i64 A ∧ A ≤ n ∧ Hid (A = prodPow (l.take k) * P ^ j)) (fun _ vj => N - (intOf vj).toNat)
            case atStart => exact ⟨0, _, rfl, by omega, rfl, hall0, by show _ = _; simp⟩
            case round =>
              obtain ⟨j, A, rfl, hj, rfl, hA, hAe⟩ := hrel
              by_cases hjN : j < N
              · have hAP : A * P ≤ n := by
                  have := HALL.out (j + 1) (by omega)
                  rw [hAe.out, Nat.mul_assoc, ← Nat.pow_succ]; exact this
                have q0 : 0 ≤ (A : Int) * P := Int.mul_nonneg (by omega) (by omega)
                have q1 : (A : Int) * P ≤ n := by have e : (A : Int) * P = ((A * P : Nat) : Int) := by { push_cast; rfl }
                                                  rw [e]; omega
                have hA2 : Hid (A * P = prodPow (l.take k) * P ^ (j + 1)) := by
                  show _ = _
                  rw [hAe.out, Nat.mul_assoc, ← Nat.pow_succ]
                go_wp2_with fail
                go_round
                case rel => exact ⟨j + 1, A * P, by go_num, by omega, by rw [Int.natCast_mul], hAP, hA2⟩
                case measure => simp [intOf]; omega
              · obtain rfl : j = N := by omega
                have hA3 : Hid (A = prodPow (l.take (k + 1))) := by
                  show _ = _
                  rw [HT.out, prodPow_append]
                  simp only [prodPow, Nat.mul_one]
                  exact hAe.out
                go_wp2_with fail
                go_roundw
                case rel => exact ⟨k + 1, P, by go_num, by omega, by rw [← hA3.out], rfl, by omega, hmono, hbel2.trans ((Below.refl _ _).alloc hbel2.size _)⟩
                case measure => simp [intOf]; omega
          · obtain rfl : k = l.length := by omega
            have hfin : Hid ((((prodPow l : Nat) : Int) == (n : Int)) = true) := by
              show _ = _
              rw [HF.out.prod]; simp
            go_wp2_with fail
            go_ret
            exact ⟨ret_bool hfin.out, hbel.trans (hbel2.mono hbel.size)⟩

theorem i64_wf {a : Int} (h : (Lit.int .i64 a).wf = true) : -9223372036854775808 ≤ a ∧ a ≤ 9223372036854775807 := by
  simpa [Lit.wf, IntKind.min, IntKind.max, IntKind.signed, IntKind.bits] using h
theorem primeSays_walk (n : Int) (w : World) (_wa : (Lit.int .i64 n).wf = true) :
    Calls Try.prog 6 #[.int .i64 n] w fun e w' => e = .returned (.bool true) ∧ Below w.heap.size w w' := by
  by_cases h : n < 0 ∨ 1000000 < n
  · exact primeSays_bad n w h
  · obtain ⟨m, rfl⟩ := Int.eq_ofNat_of_zero_le (show 0 ≤ n by omega)
    by_cases h0 : m = 0
    · subst h0; exact primeSays_zero w
    · exact primeSays_ok m w (by omega) (by omega)
end Go.Proofs.Ytonphmkilikapaa
