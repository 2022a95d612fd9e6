/- RestSays: for arbitrary numbers the functions of package rest answer what the document says. Conditions: none. -/
import Derived.Test.YtonphmkilikapaaRows
import Derived.Test.YtonphmkilikapaaRestB
import Derived.Test.YtonphmkilikapaaDivisors
namespace Go.Proofs.Ytonphmkilikapaa
open Go.RowKit

set_option maxRecDepth 100000 in
set_option maxHeartbeats 1000000 in
theorem restSays_bad (a n m : Int) (w : World) (ha : -9223372036854775808 ≤ a) (ha' : a ≤ 9223372036854775807) (hm : m < 1 ∨ 1000000 < m) :
    Calls Try.prog 14 #[.int .i64 a, .int .i64 n, .int .i64 m] w fun e w' => e = .returned (.bool true) ∧ Below w.heap.size w w' := by
  have H := Lib.hid hm
  by_cases h1 : m < 1
  · clear hm
    go_enter Try.func14, Try.ntmps14
    go_wp2_with (first | (go_at_call 68; refine (rest_Of_bad a m _ H.out).mono ?_; rintro e w' ⟨rfl, n1, rfl⟩) | (go_at_call 69; refine (rest_Pow_bad a n m _ ha ha' (.inr H.out)).mono ?_; rintro e w' ⟨rfl, n2, rfl⟩) | (go_at_call 59; refine (rest_Inverse_bad a m _ H.out).mono ?_; rintro e w' ⟨rfl, n3, rfl⟩) | (go_at_call 70; refine (rest_Order_bad a m _ H.out).mono ?_; rintro e w' ⟨rfl, n4, rfl⟩))
    go_ret
    exact ⟨rfl, (by repeat (first | exact Below.refl _ _ | apply below_drewN | (refine Below.alloc ?_ (by simp) _)))⟩
  · have d1 : decide (1000000 < m) = true := by simp; omega
    clear hm
    go_enter Try.func14, Try.ntmps14
    go_wp2_with (first | (go_at_call 68; refine (rest_Of_bad a m _ H.out).mono ?_; rintro e w' ⟨rfl, n1, rfl⟩) | (go_at_call 69; refine (rest_Pow_bad a n m _ ha ha' (.inr H.out)).mono ?_; rintro e w' ⟨rfl, n2, rfl⟩) | (go_at_call 59; refine (rest_Inverse_bad a m _ H.out).mono ?_; rintro e w' ⟨rfl, n3, rfl⟩) | (go_at_call 70; refine (rest_Order_bad a m _ H.out).mono ?_; rintro e w' ⟨rfl, n4, rfl⟩))
    go_ret
    exact ⟨rfl, (by repeat (first | exact Below.refl _ _ | apply below_drewN | (refine Below.alloc ?_ (by simp) _)))⟩

set_option maxRecDepth 100000 in
set_option maxHeartbeats 2000000 in
theorem restSays_neg_none (a n m : Int) (w : World) (ha : -9223372036854775808 ≤ a) (ha' : a ≤ 9223372036854775807) (hm : 1 ≤ m) (hm' : m ≤ 1000000) (hn : n < 0) (hg : gI (a % m) m ≠ 1) :
    Calls Try.prog 14 #[.int .i64 a, .int .i64 n, .int .i64 m] w fun e w' => e = .returned (.bool true) ∧ Below w.heap.size w w' := by
  have HG := Lib.hid hg
  have hmz : ¬ m = 0 := by omega
  have b0 : 0 ≤ a % m := Int.emod_nonneg _ hmz
  have b1 : a % m < m := Int.emod_lt_of_pos _ (by omega)
  have d1 : decide (1000000 < m) = false := by simp; omega
  have x1 : (a % m != a % m) = false := by simp
  have dn : decide (n < 0) = true := by simp; omega
  have HN := Lib.hid hn
  have hc : (gI (a % m) m == 1) = false := by simpa using hg
  clear hg
  go_enter Try.func14, Try.ntmps14
  go_wp2_with (first | (go_at_call 68; refine (rest_Of a m _ ha ha' hm hm').mono ?_; rintro e w' ⟨rfl, n1, rfl⟩) | (go_at_call 69; refine (rest_Pow_bad a n m _ ha ha' (.inl HN.out)).mono ?_; rintro e w' ⟨rfl, n2, rfl⟩) | (go_at_call 59; refine (rest_Inverse_none a m _ ha ha' hm hm' HG.out).mono ?_; rintro e w' ⟨rfl, n3, rfl⟩) | (go_at_call 70; refine (rest_Order_none a m _ ha ha' hm hm' HG.out).mono ?_; rintro e w' ⟨rfl, n4, rfl⟩) | (go_at_call 71; refine (ref_Rest a m _ ha ha' hm (by omega)).mono ?_; rintro e w' ⟨rfl, n5, rfl⟩) | (go_at_call 73; refine (ref_Coprime (a % m) m _ (by omega) (by omega) (by omega) (by omega)).mono ?_; rintro e w' ⟨rfl, rfl⟩))
  go_ret
  exact ⟨rfl, (by repeat (first | exact Below.refl _ _ | apply below_drewN | (refine Below.alloc ?_ (by simp) _)))⟩

set_option maxRecDepth 100000 in
set_option maxHeartbeats 2000000 in
theorem restSays_neg (a n m : Int) (w : World) (ha : -9223372036854775808 ≤ a) (ha' : a ≤ 9223372036854775807) (hm : 1 ≤ m) (hm' : m ≤ 1000000) (hn : n < 0) (hg : gI (a % m) m = 1) :
    Calls Try.prog 14 #[.int .i64 a, .int .i64 n, .int .i64 m] w fun e w' => e = .returned (.bool true) ∧ Below w.heap.size w w' := by
  have HG := Lib.hid hg
  have hmz : ¬ m = 0 := by omega
  have b0 : 0 ≤ a % m := Int.emod_nonneg _ hmz
  have b1 : a % m < m := Int.emod_lt_of_pos _ (by omega)
  have d1 : decide (1000000 < m) = false := by simp; omega
  have x1 : (a % m != a % m) = false := by simp
  have dn : decide (n < 0) = true := by simp; omega
  have HN := Lib.hid hn
  have hc : (gI (a % m) m == 1) = true := by simpa using hg
  obtain ⟨v0, v1, v2⟩ := bez_inv hm hg
  obtain ⟨hord, hom⟩ := ordI_spec hm hg
  obtain ⟨V, hV⟩ : ∃ V, bezX (a % m) m = V := ⟨_, rfl⟩
  obtain ⟨o, hO⟩ : ∃ o, ordI (a % m) m = o := ⟨_, rfl⟩
  rw [hV] at v0 v1 v2
  rw [hO] at hord hom
  have HV := Lib.hid hV
  have HO := Lib.hid hO
  obtain ⟨q0, q1⟩ := prod_bd (M := 1000000) v0 (by omega) b0 (by omega)
  have o1 : 1 ≤ o := hord.1
  have o2 : o ≤ 1000000 := by omega
  have e1 : decide (V < 0) = false := by simp; omega
  have e2 : decide (m ≤ V) = false := by simp; omega
  have e3 : (V * (a % m) % m != 1 % m) = false := by rw [v2]; simp
  have e4 : decide ((o : Int) < 1) = false := by simp; omega
  have e5 : (pwm a o m != 1 % m) = false := by rw [← pwm_mod, hord.2.1]; simp
  have t1 : (V * (a % m)).tmod m = V * (a % m) % m := IntWalk.rem_in _ _ (by omega)
  have t2 : IntKind.i64.wrap (V * (a % m)) = V * (a % m) := IntWalk.i64_in _ (by omega)
  have t3 : (1 : Int).tmod m = 1 % m := IntWalk.rem_in _ _ (by omega)
  have HORD : Hid (∀ d : Nat, 1 ≤ d → d < o → pwm a d m ≠ 1 % m) := by
    intro d h1 h2
    rw [← pwm_mod]
    exact hord.2.2 d h1 h2
  clear hg hV hO v2 hord
  go_enter Try.func14, Try.ntmps14
  go_wp2_with (first | (go_at_call 68; refine (rest_Of a m _ ha ha' hm hm').mono ?_; rintro e w' ⟨rfl, n1, rfl⟩) | (go_at_call 69; refine (rest_Pow_bad a n m _ ha ha' (.inl HN.out)).mono ?_; rintro e w' ⟨rfl, n2, rfl⟩) | (go_at_call 59; refine (rest_Inverse a m _ ha ha' hm hm' HG.out).mono ?_; rw [HV.out]; rintro e w' ⟨rfl, n3, rfl⟩) | (go_at_call 70; refine (rest_Order a m _ ha ha' hm hm' HG.out).mono ?_; rw [HO.out]; rintro e w' ⟨rfl, n4, rfl⟩) | (go_at_call 71; refine (ref_Rest a m _ ha ha' hm (by omega)).mono ?_; rintro e w' ⟨rfl, n5, rfl⟩) | (go_at_call 73; refine (ref_Coprime (a % m) m _ (by omega) (by omega) (by omega) (by omega)).mono ?_; rintro e w' ⟨rfl, rfl⟩))
  go_quiet ((go_at_call 72; (first | exact quiet_at (fun W => ref_PowOf 63 a o m W (by omega) (by omega) ha ha' hm hm') | exact quiet_on (fun W => ref_PowOf 63 a o m W (by omega) (by omega) ha ha' hm hm'))))
  go_wp2_with fail
  refine (ref_DivisorsOf o _ o1 o2).mono ?_
  rintro e w2 ⟨v, rfl, hown, hbel⟩
  obtain ⟨ao, cp, rfl, hR, hnone, hmx⟩ := own_reads hown
  have HR := Lib.hid hR
  have HB : Hid (Below w.heap.size w w2) := Below.trans (by repeat (first | exact Below.refl _ _ | apply below_drewN | (refine Below.alloc ?_ (by simp) _))) hbel
  obtain ⟨len, hlen⟩ : ∃ len, (divs o).length = len := ⟨_, rfl⟩
  rw [hlen] at hmx ⊢
  have HL := Lib.hid hlen
  unfold maxLen at hmx
  clear hR hnone hown hlen hbel
  go_wp2_with fail
  go_loopw [170] (fun vi wr => ∃ k : Nat, vi = .int .i64 k ∧ k ≤ len ∧ ∃ n, wr = w2.drewN n) (fun vi _ => len - (intOf vi).toNat)
  case atStart => exact ⟨0, rfl, by omega, 0, rfl⟩
  case round =>
    obtain ⟨k, rfl, hk, nd, rfl⟩ := hrel
    by_cases hkl : k < len
    · obtain ⟨d, hd⟩ : ∃ d, (divs o)[k]? = some d := ⟨(divs o)[k]'(by rw [HL.out]; exact hkl), List.getElem?_eq_getElem _⟩
      obtain ⟨b, off, rfl, hc⟩ := HR.out k (.int .i64 (d : Int)) (by simp [natInts, hd])
      have hdm := (mem_divs o1).1 (List.mem_of_getElem? hd)
      have hd1 := hdm.1
      have hdo := Nat.le_of_dvd o1 hdm.2
      clear hd hdm
      by_cases hlt : d < o
      · have f1 : decide ((d : Int) < o) = true := by simp; omega
        have f2 : (pwm a d m == 1 % m) = false := by simpa using HORD.out d hd1 hlt
        go_wp2_with fail
        go_quiet ((go_at_call 72; (first | exact quiet_at (fun W => ref_PowOf 63 a d m W (by omega) (by omega) ha ha' hm hm') | exact quiet_on (fun W => ref_PowOf 63 a d m W (by omega) (by omega) ha ha' hm hm'))))
        go_wp2_with fail
        go_roundw
        case rel => exact ⟨k + 1, by go_num, by omega, _, rfl⟩
        case measure => simp [intOf]; omega
      · have f1 : decide ((d : Int) < o) = false := by simp; omega
        go_wp2_with fail
        go_quiet (fail)
        go_wp2_with fail
        go_roundw
        case rel => exact ⟨k + 1, by go_num, by omega, _, rfl⟩
        case measure => simp [intOf]; omega
    · obtain rfl : k = len := by omega
      go_wp2_with fail
      go_ret
      exact ⟨rfl, below_drewN HB.out _⟩

set_option maxRecDepth 100000 in
set_option maxHeartbeats 2000000 in
theorem restSays_pos_none (a : Int) (n : Nat) (m : Int) (w : World) (ha : -9223372036854775808 ≤ a) (ha' : a ≤ 9223372036854775807) (hm : 1 ≤ m) (hm' : m ≤ 1000000) (hn : n < 9223372036854775808) (hg : gI (a % m) m ≠ 1) :
    Calls Try.prog 14 #[.int .i64 a, .int .i64 n, .int .i64 m] w fun e w' => e = .returned (.bool true) ∧ Below w.heap.size w w' := by
  have HG := Lib.hid hg
  have hmz : ¬ m = 0 := by omega
  have b0 : 0 ≤ a % m := Int.emod_nonneg _ hmz
  have b1 : a % m < m := Int.emod_lt_of_pos _ (by omega)
  have d1 : decide (1000000 < m) = false := by simp; omega
  have x1 : (a % m != a % m) = false := by simp
  have dn : decide ((n : Int) < 0) = false := by simp
  have p1 : (pwm a n m != pwm a n m) = false := by simp
  have hc : (gI (a % m) m == 1) = false := by simpa using hg
  clear hg
  go_enter Try.func14, Try.ntmps14
  go_wp2_with (first | (go_at_call 68; refine (rest_Of a m _ ha ha' hm hm').mono ?_; rintro e w' ⟨rfl, n1, rfl⟩) | (go_at_call 69; refine (rest_Pow a n m _ ha ha' hn hm hm').mono ?_; rintro e w' ⟨rfl, n2, rfl⟩) | (go_at_call 59; refine (rest_Inverse_none a m _ ha ha' hm hm' HG.out).mono ?_; rintro e w' ⟨rfl, n3, rfl⟩) | (go_at_call 70; refine (rest_Order_none a m _ ha ha' hm hm' HG.out).mono ?_; rintro e w' ⟨rfl, n4, rfl⟩) | (go_at_call 71; refine (ref_Rest a m _ ha ha' hm (by omega)).mono ?_; rintro e w' ⟨rfl, n5, rfl⟩) | (go_at_call 73; refine (ref_Coprime (a % m) m _ (by omega) (by omega) (by omega) (by omega)).mono ?_; rintro e w' ⟨rfl, rfl⟩))
  refine (ref_PowOf 63 a n m _ (by omega) hn ha ha' hm hm').mono ?_
  rintro e w' ⟨rfl, n6, rfl⟩
  go_wp2_with (first | (go_at_call 68; refine (rest_Of a m _ ha ha' hm hm').mono ?_; rintro e w' ⟨rfl, n1, rfl⟩) | (go_at_call 69; refine (rest_Pow a n m _ ha ha' hn hm hm').mono ?_; rintro e w' ⟨rfl, n2, rfl⟩) | (go_at_call 59; refine (rest_Inverse_none a m _ ha ha' hm hm' HG.out).mono ?_; rintro e w' ⟨rfl, n3, rfl⟩) | (go_at_call 70; refine (rest_Order_none a m _ ha ha' hm hm' HG.out).mono ?_; rintro e w' ⟨rfl, n4, rfl⟩) | (go_at_call 71; refine (ref_Rest a m _ ha ha' hm (by omega)).mono ?_; rintro e w' ⟨rfl, n5, rfl⟩) | (go_at_call 73; refine (ref_Coprime (a % m) m _ (by omega) (by omega) (by omega) (by omega)).mono ?_; rintro e w' ⟨rfl, rfl⟩))
  go_ret
  exact ⟨rfl, (by repeat (first | exact Below.refl _ _ | apply below_drewN | (refine Below.alloc ?_ (by simp) _)))⟩

set_option maxRecDepth 100000 in
set_option maxHeartbeats 2000000 in
theorem restSays_pos (a : Int) (n : Nat) (m : Int) (w : World) (ha : -9223372036854775808 ≤ a) (ha' : a ≤ 9223372036854775807) (hm : 1 ≤ m) (hm' : m ≤ 1000000) (hn : n < 9223372036854775808) (hg : gI (a % m) m = 1) :
    Calls Try.prog 14 #[.int .i64 a, .int .i64 n, .int .i64 m] w fun e w' => e = .returned (.bool true) ∧ Below w.heap.size w w' := by
  have HG := Lib.hid hg
  have hmz : ¬ m = 0 := by omega
  have b0 : 0 ≤ a % m := Int.emod_nonneg _ hmz
  have b1 : a % m < m := Int.emod_lt_of_pos _ (by omega)
  have d1 : decide (1000000 < m) = false := by simp; omega
  have x1 : (a % m != a % m) = false := by simp
  have dn : decide ((n : Int) < 0) = false := by simp
  have p1 : (pwm a n m != pwm a n m) = false := by simp
  have hc : (gI (a % m) m == 1) = true := by simpa using hg
  obtain ⟨v0, v1, v2⟩ := bez_inv hm hg
  obtain ⟨hord, hom⟩ := ordI_spec hm hg
  obtain ⟨V, hV⟩ : ∃ V, bezX (a % m) m = V := ⟨_, rfl⟩
  obtain ⟨o, hO⟩ : ∃ o, ordI (a % m) m = o := ⟨_, rfl⟩
  rw [hV] at v0 v1 v2
  rw [hO] at hord hom
  have HV := Lib.hid hV
  have HO := Lib.hid hO
  obtain ⟨q0, q1⟩ := prod_bd (M := 1000000) v0 (by omega) b0 (by omega)
  have o1 : 1 ≤ o := hord.1
  have o2 : o ≤ 1000000 := by omega
  have e1 : decide (V < 0) = false := by simp; omega
  have e2 : decide (m ≤ V) = false := by simp; omega
  have e3 : (V * (a % m) % m != 1 % m) = false := by rw [v2]; simp
  have e4 : decide ((o : Int) < 1) = false := by simp; omega
  have e5 : (pwm a o m != 1 % m) = false := by rw [← pwm_mod, hord.2.1]; simp
  have t1 : (V * (a % m)).tmod m = V * (a % m) % m := IntWalk.rem_in _ _ (by omega)
  have t2 : IntKind.i64.wrap (V * (a % m)) = V * (a % m) := IntWalk.i64_in _ (by omega)
  have t3 : (1 : Int).tmod m = 1 % m := IntWalk.rem_in _ _ (by omega)
  have HORD : Hid (∀ d : Nat, 1 ≤ d → d < o → pwm a d m ≠ 1 % m) := by
    intro d h1 h2
    rw [← pwm_mod]
    exact hord.2.2 d h1 h2
  clear hg hV hO v2 hord
  go_enter Try.func14, Try.ntmps14
  go_wp2_with (first | (go_at_call 68; refine (rest_Of a m _ ha ha' hm hm').mono ?_; rintro e w' ⟨rfl, n1, rfl⟩) | (go_at_call 69; refine (rest_Pow a n m _ ha ha' hn hm hm').mono ?_; rintro e w' ⟨rfl, n2, rfl⟩) | (go_at_call 59; refine (rest_Inverse a m _ ha ha' hm hm' HG.out).mono ?_; rw [HV.out]; rintro e w' ⟨rfl, n3, rfl⟩) | (go_at_call 70; refine (rest_Order a m _ ha ha' hm hm' HG.out).mono ?_; rw [HO.out]; rintro e w' ⟨rfl, n4, rfl⟩) | (go_at_call 71; refine (ref_Rest a m _ ha ha' hm (by omega)).mono ?_; rintro e w' ⟨rfl, n5, rfl⟩) | (go_at_call 73; refine (ref_Coprime (a % m) m _ (by omega) (by omega) (by omega) (by omega)).mono ?_; rintro e w' ⟨rfl, rfl⟩))
  refine (ref_PowOf 63 a n m _ (by omega) hn ha ha' hm hm').mono ?_
  rintro e w' ⟨rfl, n6, rfl⟩
  go_wp2_with (first | (go_at_call 68; refine (rest_Of a m _ ha ha' hm hm').mono ?_; rintro e w' ⟨rfl, n1, rfl⟩) | (go_at_call 69; refine (rest_Pow a n m _ ha ha' hn hm hm').mono ?_; rintro e w' ⟨rfl, n2, rfl⟩) | (go_at_call 59; refine (rest_Inverse a m _ ha ha' hm hm' HG.out).mono ?_; rw [HV.out]; rintro e w' ⟨rfl, n3, rfl⟩) | (go_at_call 70; refine (rest_Order a m _ ha ha' hm hm' HG.out).mono ?_; rw [HO.out]; rintro e w' ⟨rfl, n4, rfl⟩) | (go_at_call 71; refine (ref_Rest a m _ ha ha' hm (by omega)).mono ?_; rintro e w' ⟨rfl, n5, rfl⟩) | (go_at_call 73; refine (ref_Coprime (a % m) m _ (by omega) (by omega) (by omega) (by omega)).mono ?_; rintro e w' ⟨rfl, rfl⟩))
  go_quiet ((go_at_call 72; (first | exact quiet_at (fun W => ref_PowOf 63 a o m W (by omega) (by omega) ha ha' hm hm') | exact quiet_on (fun W => ref_PowOf 63 a o m W (by omega) (by omega) ha ha' hm hm'))))
  go_wp2_with fail
  refine (ref_DivisorsOf o _ o1 o2).mono ?_
  rintro e w2 ⟨v, rfl, hown, hbel⟩
  obtain ⟨ao, cp, rfl, hR, hnone, hmx⟩ := own_reads hown
  have HR := Lib.hid hR
  have HB : Hid (Below w.heap.size w w2) := Below.trans (by repeat (first | exact Below.refl _ _ | apply below_drewN | (refine Below.alloc ?_ (by simp) _))) hbel
  obtain ⟨len, hlen⟩ : ∃ len, (divs o).length = len := ⟨_, rfl⟩
  rw [hlen] at hmx ⊢
  have HL := Lib.hid hlen
  unfold maxLen at hmx
  clear hR hnone hown hlen hbel
  go_wp2_with fail
  go_loopw [170] (fun vi wr => ∃ k : Nat, vi = .int .i64 k ∧ k ≤ len ∧ ∃ n, wr = w2.drewN n) (fun vi _ => len - (intOf vi).toNat)
  case atStart => exact ⟨0, rfl, by omega, 0, rfl⟩
  case round =>
    obtain ⟨k, rfl, hk, nd, rfl⟩ := hrel
    by_cases hkl : k < len
    · obtain ⟨d, hd⟩ : ∃ d, (divs o)[k]? = some d := ⟨(divs o)[k]'(by rw [HL.out]; exact hkl), List.getElem?_eq_getElem _⟩
      obtain ⟨b, off, rfl, hc⟩ := HR.out k (.int .i64 (d : Int)) (by simp [natInts, hd])
      have hdm := (mem_divs o1).1 (List.mem_of_getElem? hd)
      have hd1 := hdm.1
      have hdo := Nat.le_of_dvd o1 hdm.2
      clear hd hdm
      by_cases hlt : d < o
      · have f1 : decide ((d : Int) < o) = true := by simp; omega
        have f2 : (pwm a d m == 1 % m) = false := by simpa using HORD.out d hd1 hlt
        go_wp2_with fail
        go_quiet ((go_at_call 72; (first | exact quiet_at (fun W => ref_PowOf 63 a d m W (by omega) (by omega) ha ha' hm hm') | exact quiet_on (fun W => ref_PowOf 63 a d m W (by omega) (by omega) ha ha' hm hm'))))
        go_wp2_with fail
        go_roundw
        case rel => exact ⟨k + 1, by go_num, by omega, _, rfl⟩
        case measure => simp [intOf]; omega
      · have f1 : decide ((d : Int) < o) = false := by simp; omega
        go_wp2_with fail
        go_quiet (fail)
        go_wp2_with fail
        go_roundw
        case rel => exact ⟨k + 1, by go_num, by omega, _, rfl⟩
        case measure => simp [intOf]; omega
    · obtain rfl : k = len := by omega
      go_wp2_with fail
      go_ret
      exact ⟨rfl, below_drewN HB.out _⟩

theorem i64_wf {a : Int} (h : (Lit.int .i64 a).wf = true) : -9223372036854775808 ≤ a ∧ a ≤ 9223372036854775807 := by
  simpa [Lit.wf, IntKind.min, IntKind.max, IntKind.signed, IntKind.bits] using h
theorem restSays_walk (a n m : Int) (w : World) (wa : (Lit.int .i64 a).wf = true) (wn : (Lit.int .i64 n).wf = true) (_wm : (Lit.int .i64 m).wf = true) :
    Calls Try.prog 14 #[.int .i64 a, .int .i64 n, .int .i64 m] w fun e w' => e = .returned (.bool true) ∧ Below w.heap.size w w' := by
  obtain ⟨a1, a2⟩ := i64_wf wa
  obtain ⟨n1, n2⟩ := i64_wf wn
  by_cases hm : m < 1 ∨ 1000000 < m
  · exact restSays_bad a n m w a1 a2 hm
  · by_cases hg : gI (a % m) m = 1
    · by_cases hn : n < 0
      · exact restSays_neg a n m w a1 a2 (by omega) (by omega) hn hg
      · obtain ⟨k, rfl⟩ := Int.eq_ofNat_of_zero_le (show 0 ≤ n by omega)
        exact restSays_pos a k m w a1 a2 (by omega) (by omega) (by omega) hg
    · by_cases hn : n < 0
      · exact restSays_neg_none a n m w a1 a2 (by omega) (by omega) hn hg
      · obtain ⟨k, rfl⟩ := Int.eq_ofNat_of_zero_le (show 0 ≤ n by omega)
        exact restSays_pos_none a k m w a1 a2 (by omega) (by omega) (by omega) hg
end Go.Proofs.Ytonphmkilikapaa
