/- divide.Phi. -/
import Derived.Test.YtgdcmebhopjfaaaRows
import Derived.Test.YtgdcmebhopjfaaaDivsN
import Derived.Test.YtgdcmebhopjfaaaFactor
import Derived.Test.YtgdcmebhopjfaaaDivide
import Derived.Test.YtgdcmebhopjfaaaTwo
namespace Go.Proofs.Ytgdcmebhopjfaaa
open Go.RowKit

theorem phi_step {n k P M : Nat} {l : List (Nat × Nat)} (hF : Factors n l) (ha : l[k]? = some (P, M)) :
    ∃ q : Int, 0 ≤ q ∧ q ≤ n ∧ valL phiG (l.take k) * (prodPow (l.drop k) : Int) = (P : Int) * q ∧ valL phiG (l.take (k + 1)) * (prodPow (l.drop (k + 1)) : Int) = q * ((P : Int) - 1) := by
  have hma := List.mem_of_getElem? ha
  obtain ⟨hp, hM⟩ := hF.pr _ hma
  simp only at hp hM
  obtain ⟨m, rfl⟩ : ∃ m, M = m + 1 := ⟨M - 1, by omega⟩
  have hlt := (List.getElem?_eq_some_iff.1 ha).1
  have e1 : l.drop k = (P, m + 1) :: l.drop (k + 1) := by
    rw [List.drop_eq_getElem_cons hlt]
    rw [(List.getElem?_eq_some_iff.1 ha).2]
  have e2 : prodPow (l.drop k) = P ^ (m + 1) * prodPow (l.drop (k + 1)) := by rw [e1]; rfl
  have e3 : valL phiG (l.take (k + 1)) = valL phiG (l.take k) * ((P : Int) ^ m * ((P : Int) - 1)) := by
    rw [take_snoc2 l k _ ha, valL_append]
    show _ * (phiG P (m + 1) * 1) = _
    unfold phiG
    rw [Nat.add_sub_cancel, Int.mul_one]
  obtain ⟨R, hR⟩ : ∃ R, prodPow (l.drop (k + 1)) = R := ⟨_, rfl⟩
  obtain ⟨V, hV⟩ : ∃ V, valL phiG (l.take k) = V := ⟨_, rfl⟩
  have hb := valL_phi_bd (l := l.take k) fun a h => hF.pr a (List.mem_of_mem_take h)
  rw [hV] at hb e3
  rw [hR] at e2
  rw [e2, e3, hR, hV]
  have hp1 : 1 ≤ P := by have := hp.1; omega
  have hq0 : 0 ≤ (P : Int) ^ m * (R : Int) := Int.mul_nonneg (by rw [← Int.natCast_pow]; omega) (by omega)
  refine ⟨V * ((P : Int) ^ m * (R : Int)), Int.mul_nonneg hb.1 hq0, ?_, ?_, ?_⟩
  · have h1 : V * ((P : Int) ^ m * (R : Int)) ≤ (prodPow (l.take k) : Int) * ((P : Int) ^ m * (R : Int)) := Int.mul_le_mul_of_nonneg_right hb.2 hq0
    refine Int.le_trans h1 ?_
    have h2 : prodPow (l.take k) * (P ^ m * R) ≤ n := by
      have h3 : prodPow (l.take k) * (P ^ (m + 1) * R) = n := by rw [← e2, ← prodPow_append, List.take_append_drop]; exact hF.prod
      rw [← h3]
      refine Nat.mul_le_mul_left _ (Nat.mul_le_mul_right _ ?_)
      rw [Nat.pow_succ]
      exact Nat.le_mul_of_pos_right _ hp1
    calc (prodPow (l.take k) : Int) * ((P : Int) ^ m * (R : Int)) = ((prodPow (l.take k) * (P ^ m * R) : Nat) : Int) := by push_cast; rfl
      _ ≤ (n : Int) := by exact_mod_cast h2
  · push_cast
    rw [Int.pow_succ]
    simp only [Int.mul_left_comm, Int.mul_comm, Int.mul_assoc]
  · simp only [Int.mul_left_comm, Int.mul_comm, Int.mul_assoc]
set_option maxRecDepth 100000 in
set_option maxHeartbeats 2000000 in
theorem divide_Phi (n : Nat) (w : World) (h1 : 1 ≤ n) (hn : n ≤ 1000000) :
    Calls Try.prog 24 #[.int .i64 n] w fun e w' => e = .returned (.tuple #[.int .i64 (phi n), .int .i64 0]) ∧ Below w.heap.size w w' := by
  go_enter Try.func24, Try.ntmps24
  go_wp2_with fail
  refine (prime_Factor n w h1 hn).mono ?_
  rintro e w1 ⟨l, v, hF, hll, rfl, hown, hbel⟩
  obtain ⟨ao, cp, rfl, hR, hnone, hmx⟩ := own_reads hown
  have HF := Lib.hid hF
  have HR := Lib.hid hR
  have HB := Lib.hid hbel
  have HMU : Hid (phi n = valL phiG l) := mult_eq hF
  obtain ⟨len, hlen⟩ : ∃ len, l.length = len := ⟨_, rfl⟩
  rw [hlen] at hll ⊢
  have HL := Lib.hid hlen
  have h00 : Hid ((n : Int) = valL phiG (l.take 0) * (prodPow (l.drop 0) : Int)) := Lib.hid (by rw [List.take_zero, List.drop_zero, hF.prod]; show _ = 1 * _; rw [Int.one_mul])
  clear hF hR hnone hmx hown hbel hlen
  go_wp2_with fail
  go_loopw [0, 18] (fun vo vi wr => ∃ (k : Nat) (o : Int), vi = .int .i64 k ∧ k ≤ len ∧ vo = .int .i64 o ∧ Hid (o = valL phiG (l.take k) * (prodPow (l.drop k) : Int)) ∧ Hid (Below w1.heap.size w1 wr)) (fun _ vi _ => len - (intOf vi).toNat)
  case atStart => exact ⟨0, n, rfl, by omega, rfl, h00, Below.refl _ _⟩
  case round =>
    obtain ⟨k, o, rfl, hk, rfl, hoe, hb⟩ := hrel
    by_cases hkl : k < len
    · obtain ⟨a, ha⟩ : ∃ a, l[k]? = some a := ⟨l[k]'(by rw [HL.out]; exact hkl), List.getElem?_eq_getElem _⟩
      have hma := List.mem_of_getElem? ha
      obtain ⟨P, M⟩ := a
      have hP1 := (HF.out.pr _ hma).1.1
      simp only at hP1
      have hPn : P ≤ n := by
        have := Nat.le_of_dvd (by omega) (show P ∣ n by have h := dvd_prodPow hma (HF.out.pr _ hma).2; rwa [HF.out.prod] at h)
        exact this
      obtain ⟨q, q0, q1, q2, q3⟩ := phi_step HF.out ha
      rw [← hoe.out] at q2
      have Q3 := Lib.hid q3
      have hc1 := powCells_get l k _ ha
      have hR2 := (HR.out).below hb.out
      obtain ⟨b, of, rfl, hcell1⟩ := hR2 _ _ hc1.1
      obtain ⟨b', of', hbo, hcell2⟩ := hR2 _ _ hc1.2
      simp only [Option.some.injEq, Addr.mk.injEq, and_true] at hbo
      obtain ⟨rfl, rfl⟩ := hbo
      have hcell1' : wr.cell? ⟨b, of + k * 2, none⟩ = some (.int .i64 P) := hcell1
      have hcell2' : wr.cell? ⟨b, of + k * 2 + 1, none⟩ = some (.int .i64 (M : Int)) := hcell2
      have hpz : ((P : Int) == 0) = false := beq_eq_false_iff_ne.2 (by omega)
      have hpz2 : ¬ (P = 0) := by omega
      have hdv : o.tdiv (P : Int) = q := by rw [q2]; exact Int.mul_tdiv_cancel_left q (by omega)
      have wq : IntKind.i64.wrap q = q := IntWalk.i64_in _ (by omega)
      have wp : IntKind.i64.wrap ((P : Int) - 1) = (P : Int) - 1 := IntWalk.i64_in _ (by omega)
      have hn2 : 0 ≤ q * ((P : Int) - 1) := Int.mul_nonneg q0 (by omega)
      have hn3 : q * ((P : Int) - 1) ≤ 1000000 * 1000000 := Int.mul_le_mul (by omega) (by omega) (by omega) (by omega)
      have wm : IntKind.i64.wrap (q * ((P : Int) - 1)) = q * ((P : Int) - 1) := IntWalk.i64_in _ (by omega)
      clear hR2 hc1 ha hma hcell1 hcell2 q2 q3 hn2 hn3
      go_wp2_with fail
      go_region_law fail
      all_goals
        go_wp2_with fail
        go_roundw
        case rel => exact ⟨k + 1, _, by go_num, by omega, rfl, Lib.hid Q3.out.symm, Lib.hid (by repeat (first | (with_reducible exact hb.out.trans ((Below.refl _ _).alloc hb.out.size _)) | (with_reducible apply below_drew1)))⟩
        case measure => simp [intOf]; omega
    · have hfin : Hid (phi n = o) := by
        show _ = _
        rw [HMU.out, hoe.out, show k = l.length by rw [HL.out]; omega, List.take_length, List.drop_length]
        show _ = _ * 1
        rw [Int.mul_one]
      go_wp2_with fail
      go_ret2
      exact ⟨by rw [hfin.out]; rfl, HB.out.trans (Below.mono hb.out HB.out.size)⟩
end Go.Proofs.Ytgdcmebhopjfaaa
