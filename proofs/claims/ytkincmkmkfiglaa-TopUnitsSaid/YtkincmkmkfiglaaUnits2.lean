/- TopUnits: the units modulo a product correspond to pairs of units. Conditions: none. -/
import Derived.Test.YtkincmkmkfiglaaRows
import Derived.Test.YtkincmkmkfiglaaUnits1
import Derived.Test.YtkincmkmkfiglaaRestB
import Derived.Test.YtkincmkmkfiglaaChinese3
namespace Go.Proofs.Ytkincmkmkfiglaa
open Go.RowKit

theorem inv_of {a x : Int} {m : Nat} (h : x * (a % m) % m = 1 % m) : x * a % m = 1 % m := by
  rw [← h, Int.mul_emod, Int.mul_emod x (a % m), Int.emod_emod]
theorem sys_two {x y M N n m : Nat} (h : Sys [(x, M), (y, N)] n m) (hg : Nat.gcd M N = 1) : m = M * N ∧ n % M = x ∧ n % N = y ∧ n < M * N := by
  have hm : m = M * N := by
    rw [h.mod]
    show Nat.lcm (Nat.lcm 1 M) N = _
    rw [Nat.lcm_one_left]
    unfold Nat.lcm
    rw [hg, Nat.div_one]
  refine ⟨hm, h.res (x, M) (by simp), h.res (y, N) (by simp), by rw [← hm]; exact h.lt⟩
theorem units_join {a x y z : Int} {M N n m : Nat} (hM : 1 ≤ M) (hN : 1 ≤ N) (hg : Nat.gcd M N = 1) (hx0 : 0 ≤ x) (hx1 : x < M) (hx : x * (a % M) % M = 1 % M) (hy0 : 0 ≤ y) (hy1 : y < N) (hy : y * (a % N) % N = 1 % N)
    (hz0 : 0 ≤ z) (hz1 : z < ((M * N : Nat) : Int)) (hz : z * (a % ((M * N : Nat) : Int)) % ((M * N : Nat) : Int) = 1 % ((M * N : Nat) : Int)) (h : Sys [(x.toNat, M), (y.toNat, N)] n m) : (n : Int) = z ∧ m = M * N := by
  obtain ⟨h1, h2, h3, h4⟩ := sys_two h hg
  refine ⟨?_, h1⟩
  have hza := inv_of hz
  have zM : z % M = x := by
    rw [inv_uniq (inv_part hza) (inv_of hx)]
    exact Int.emod_eq_of_lt hx0 hx1
  have zN : z % N = y := by
    have hza2 : z * a % ((N * M : Nat) : Int) = 1 % ((N * M : Nat) : Int) := by rw [Nat.mul_comm]; exact hza
    rw [inv_uniq (inv_part hza2) (inv_of hy)]
    exact Int.emod_eq_of_lt hy0 hy1
  have e : n = z.toNat := by
    refine uniq2 hg h4 (by omega) ?_ ?_
    · rw [h2]
      have : ((z.toNat % M : Nat) : Int) = x := by push_cast; rw [Int.toNat_of_nonneg hz0, zM]
      omega
    · rw [h3]
      have : ((z.toNat % N : Nat) : Int) = y := by push_cast; rw [Int.toNat_of_nonneg hz0, zN]
      omega
  rw [e, Int.toNat_of_nonneg hz0]
theorem not_odds2 {x y M N : Nat} (hg : Nat.gcd M N = 1) (h : AnyOdds [(x, M), (y, N)]) : False := by
  obtain ⟨i, j, a, b, hj, ha, hb, hab⟩ := h
  have hi := (List.getElem?_eq_some_iff.1 ha).1
  simp at hi
  have e1 : i = 1 := by omega
  have e2 : j = 0 := by omega
  subst e1
  subst e2
  simp at ha hb
  subst ha
  subst hb
  unfold odds at hab
  rw [Nat.gcd_comm, hg] at hab
  exact hab ⟨_, (Int.one_mul _).symm⟩
/-- An inverse, or none. -/
def InvIs (a : Int) (m : Nat) (x E : Int) : Prop := (Nat.gcd a.natAbs m = 1 ∧ E = 0 ∧ 0 ≤ x ∧ x < m ∧ x * (a % m) % m = 1 % m) ∨ (Nat.gcd a.natAbs m ≠ 1 ∧ E = 4)
theorem inv_any (a : Int) (m : Nat) (ha : -9223372036854775808 ≤ a) (ha' : a ≤ 9223372036854775807) (hm : 1 ≤ m) (hm' : m ≤ 1000000) :
    ∃ x E, InvIs a m x E ∧ ∀ w, Calls Try.prog 37 #[.int .i64 a, .int .i64 m] w fun e w' => e = .returned (.tuple #[.int .i64 x, .int .i64 E]) ∧ ∃ n, w' = w.drewN n := by
  have hgi := gI_a a m
  by_cases h : Nat.gcd a.natAbs m = 1
  · have h1 : gI (a % (m : Int)) (m : Int) = 1 := by rw [hgi, h]; rfl
    obtain ⟨b1, b2, b3⟩ := bez_inv (by omega) h1
    exact ⟨_, 0, .inl ⟨h, rfl, b1, b2, b3⟩, fun w => rest_Inverse a m w ha ha' (by omega) (by omega) h1⟩
  · have h1 : gI (a % (m : Int)) (m : Int) ≠ 1 := by rw [hgi]; intro h2; exact h (by exact_mod_cast h2)
    exact ⟨0, 4, .inr ⟨h, rfl⟩, fun w => rest_Inverse_none a m w ha ha' (by omega) (by omega) h1⟩
theorem pairR_two (p q : Int × Int) : pairR [p, q] = [.int .i64 p.1, .int .i64 p.2, .int .i64 q.1, .int .i64 q.2] := rfl
set_option maxRecDepth 100000 in
set_option maxHeartbeats 8000000 in
theorem topUnits_ne (m n a : Int) (M N : Nat) (w : World) (ha : -9223372036854775808 ≤ a) (ha' : a ≤ 9223372036854775807) (hm : -9223372036854775808 ≤ m ∧ m ≤ 9223372036854775807) (hn : -9223372036854775808 ≤ n ∧ n ≤ 9223372036854775807)
    (hM : 1 + m % 300 = (M : Int)) (hN : 1 + n % 300 = (N : Int)) (hM2 : M ≤ 300) (hN2 : N ≤ 300) (hg : Nat.gcd M N ≠ 1) :
    Calls Try.prog 6 #[.int .i64 m, .int .i64 n, .int .i64 a] w fun e w' => e = .returned (.bool true) ∧ Below w.heap.size w w' := by
  have HW1 := Lib.hid (fun W => keep_Within m 300 W hm.1 hm.2 (by omega) (by omega))
  have HW2 := Lib.hid (fun W => keep_Within n 300 W hn.1 hn.2 (by omega) (by omega))
  have wM : IntKind.i64.wrap (M : Int) = (M : Int) := IntWalk.i64_in _ (by omega)
  have wN : IntKind.i64.wrap (N : Int) = (N : Int) := IntWalk.i64_in _ (by omega)
  obtain ⟨u, hu⟩ : ∃ u, m % 300 = u := ⟨_, rfl⟩
  obtain ⟨v, hv⟩ : ∃ v, n % 300 = v := ⟨_, rfl⟩
  rw [hu] at HW1 hM
  rw [hv] at HW2 hN
  have HG := Lib.hid (fun W => euclid_Gcd (M : Int) (N : Int) W (by omega) (by omega) (by omega) (by omega))
  have eg : gI (M : Int) (N : Int) = ((Nat.gcd M N : Nat) : Int) := by unfold gI; rw [Int.gcd_natCast_natCast]
  rw [eg] at HG
  obtain ⟨g, hgg⟩ : ∃ g, Nat.gcd M N = g := ⟨_, rfl⟩
  rw [hgg] at HG hg
  have dg : ((g : Int) != 1) = true := by simp; omega
  have HT := Lib.hid (fun W => top_works W)
  clear hu hv eg hgg hg
  go_enter Try.func6, Try.ntmps6
  go_wp2_with (first | (go_at_call 33; first | (with_reducible refine (HW1.out _).mono ?_; rintro e1 w' ⟨rfl, q1, rfl⟩) | (with_reducible refine (HW2.out _).mono ?_; rintro e1 w' ⟨rfl, q2, rfl⟩)) | (go_at_call 34; refine (HG.out _).mono ?_; rintro e1 w' ⟨rfl, q3, rfl⟩))
  refine (HT.out _).mono ?_
  rintro e w1 ⟨rfl, hb1⟩
  have HB1 : Hid (Below w.heap.size w w1) := (below_dr w.heap.size w _).trans hb1
  go_wp2_with fail
  refine (HT.out _).mono ?_
  rintro e w2 ⟨rfl, hb2⟩
  have HB2 := Lib.hid (HB1.out.trans (Below.mono hb2 HB1.out.size))
  go_wp2_with fail
  go_ret
  exact ⟨rfl, HB2.out⟩
set_option maxRecDepth 100000 in
set_option maxHeartbeats 8000000 in
theorem topUnits_eq (m n a : Int) (M N : Nat) (w : World) (ha : -9223372036854775808 ≤ a) (ha' : a ≤ 9223372036854775807) (hm : -9223372036854775808 ≤ m ∧ m ≤ 9223372036854775807) (hn : -9223372036854775808 ≤ n ∧ n ≤ 9223372036854775807)
    (hM : 1 + m % 300 = (M : Int)) (hN : 1 + n % 300 = (N : Int)) (hM2 : M ≤ 300) (hN2 : N ≤ 300) (hg : Nat.gcd M N = 1) :
    Calls Try.prog 6 #[.int .i64 m, .int .i64 n, .int .i64 a] w fun e w' => e = .returned (.bool true) ∧ Below w.heap.size w w' := by
  have hM1 : 1 ≤ M := by omega
  have hN1 : 1 ≤ N := by omega
  have HW1 := Lib.hid (fun W => keep_Within m 300 W hm.1 hm.2 (by omega) (by omega))
  have HW2 := Lib.hid (fun W => keep_Within n 300 W hn.1 hn.2 (by omega) (by omega))
  have wM : IntKind.i64.wrap (M : Int) = (M : Int) := IntWalk.i64_in _ (by omega)
  have wN : IntKind.i64.wrap (N : Int) = (N : Int) := IntWalk.i64_in _ (by omega)
  obtain ⟨u, hu⟩ : ∃ u, m % 300 = u := ⟨_, rfl⟩
  obtain ⟨v, hv⟩ : ∃ v, n % 300 = v := ⟨_, rfl⟩
  rw [hu] at HW1 hM
  rw [hv] at HW2 hN
  have HG := Lib.hid (fun W => euclid_Gcd (M : Int) (N : Int) W (by omega) (by omega) (by omega) (by omega))
  have eg : gI (M : Int) (N : Int) = 1 := by unfold gI; rw [Int.gcd_natCast_natCast, hg]; rfl
  rw [eg] at HG
  have HGG := Lib.hid hg
  have HT := Lib.hid (fun W => top_works W)
  obtain ⟨K, hK⟩ : ∃ K, M * N = K := ⟨_, rfl⟩
  have hK1 : 1 ≤ K := by rw [← hK]; exact Nat.mul_le_mul hM1 hN1
  have hK2 : K ≤ 90000 := by rw [← hK]; exact Nat.mul_le_mul hM2 hN2
  have eK : (M : Int) * (N : Int) = (K : Int) := by rw [← hK]; push_cast; rfl
  have wK : IntKind.i64.wrap (K : Int) = (K : Int) := IntWalk.i64_in _ (by omega)
  have HP1 := Lib.hid (fun W => divide_Phi M W hM1 (by omega))
  have HP2 := Lib.hid (fun W => divide_Phi N W hN1 (by omega))
  have HP3 := Lib.hid (fun W => divide_Phi K W hK1 (by omega))
  have hphi : Hid (phi K = phi M * phi N) := by show _ = _; rw [← hK]; exact phi_mul hM1 hN1 hg
  obtain ⟨x, E4, hx, HX0⟩ := inv_any a M ha ha' hM1 (by omega)
  obtain ⟨y, E5, hy, HY0⟩ := inv_any a N ha ha' hN1 (by omega)
  obtain ⟨z, E6, hz, HZ0⟩ := inv_any a K ha ha' hK1 (by omega)
  have HX := Lib.hid HX0
  have HY := Lib.hid HY0
  have HZ := Lib.hid HZ0
  have HGD := Lib.hid (fun W ao c hr => good_three ao c W hr)
  have hcop : Nat.gcd a.natAbs K = 1 ↔ Nat.gcd a.natAbs M = 1 ∧ Nat.gcd a.natAbs N = 1 := by rw [← hK]; exact gcd_prod
  have HKK := Lib.hid hK
  clear hu hv eg hg HX0 HY0 HZ0 hK
  go_enter Try.func6, Try.ntmps6
  go_wp2_with (first | (go_at_call 33; first | (with_reducible refine (HW1.out _).mono ?_; rintro e1 w' ⟨rfl, q1, rfl⟩) | (with_reducible refine (HW2.out _).mono ?_; rintro e1 w' ⟨rfl, q2, rfl⟩)) | (go_at_call 34; refine (HG.out _).mono ?_; rintro e1 w' ⟨rfl, q3, rfl⟩))
  refine (HT.out _).mono ?_
  rintro e w1 ⟨rfl, hb1⟩
  have HB1 : Hid (Below w.heap.size w w1) := (below_dr w.heap.size w _).trans hb1
  clear hb1
  go_wp2_with fail
  refine (HP1.out _).mono ?_
  rintro e w2 ⟨⟨f1, hf1, hfM, rfl⟩, hb2⟩
  have HB2 := Lib.hid (HB1.out.trans (Below.mono hb2 HB1.out.size))
  have HF1 := Lib.hid hf1
  clear hb2 hf1
  go_wp2_with fail
  refine (HP2.out _).mono ?_
  rintro e w3 ⟨⟨f2, hf2, hfN, rfl⟩, hb3⟩
  have HB3 := Lib.hid (HB2.out.trans (Below.mono hb3 HB2.out.size))
  have HF2 := Lib.hid hf2
  clear hb3 hf2
  go_wp2_with fail
  refine (HP3.out _).mono ?_
  rintro e w4 ⟨⟨f3, hf3, hfK, rfl⟩, hb4⟩
  have HB4 := Lib.hid (HB3.out.trans (Below.mono hb4 HB3.out.size))
  have ef : (f1 : Int) * (f2 : Int) = (f3 : Int) := by rw [HF1.out, HF2.out, hf3, hphi.out]
  have wf : IntKind.i64.wrap (f3 : Int) = (f3 : Int) := IntWalk.i64_in _ (by omega)
  have df : ((f3 : Int) != (f3 : Int)) = false := by simp
  clear hb4 hf3
  go_wp2_with (first | (go_at_call 37; first | (with_reducible refine (HX.out _).mono ?_; rintro e1 w' ⟨rfl, q4, rfl⟩) | (with_reducible refine (HY.out _).mono ?_; rintro e1 w' ⟨rfl, q5, rfl⟩) | (with_reducible refine (HZ.out _).mono ?_; rintro e1 w' ⟨rfl, q6, rfl⟩)))
  rcases hx with ⟨x1, rfl, x2, x3, x4⟩ | ⟨x1, rfl⟩
  · rcases hy with ⟨y1, rfl, y2, y3, y4⟩ | ⟨y1, rfl⟩
    · rcases hz with ⟨z1, rfl, z2, z3, z4⟩ | ⟨z1, rfl⟩
      · have X1 := Lib.hid x4
        have Y1 := Lib.hid y4
        have Z1 := Lib.hid z4
        clear x4 y4 z4 x1 y1 z1 hcop
        have hch : chinE [(x, (M : Int)), (y, (N : Int))] = 0 := by
          unfold chinE rBad
          simp
          omega
        have HJ := Lib.hid (fun W ao c hr => chinese_Join [(x, (M : Int)), (y, (N : Int))] ao c W hch hr)
        clear hch
        go_wp2_with fail
        refine (HGD.out _ _ _ (Lib.hid (reads_new _ _ _))).mono ?_
        rintro e1 w' ⟨rfl, q7, rfl⟩
        go_wp2_with fail
        obtain ⟨w5, hw5⟩ : ∃ w5, ((w4.drewN (q4 + q5 + q6)).alloc (.cells #[.int .i64 0, .int .i64 0, .int .i64 0] 27)).drewN q7 = w5 := ⟨_, rfl⟩
        have HB5 : Hid (Below w.heap.size w w5) := by rw [← hw5]; exact Lib.hid (below_drewN ((below_drewN HB4.out _).alloc (by have := HB4.out.size; exact this) _) _)
        have hs5 : w4.heap.size + 1 = w5.heap.size := by rw [← hw5]; exact (World.size_alloc (w4.drewN (q4 + q5 + q6)) _).symm
        have hrd := reads_new w5 #[.int .i64 x, .int .i64 (M : Int), .int .i64 y, .int .i64 (N : Int)] 53
        have hpr : Hid (Reads (w5.alloc (.cells #[.int .i64 x, .int .i64 (M : Int), .int .i64 y, .int .i64 (N : Int)] 53)) (some ⟨w5.heap.size, 0, none⟩) (pairR [(x, (M : Int)), (y, (N : Int))])) := by
          show Reads _ _ _
          rw [pairR_two]; exact hrd
        rw [hs5]
        have HW5 := Lib.hid hw5
        clear hrd hw5
        refine (HJ.out _ _ _ (by first | exact hpr | (rw [HW5.out]; exact hpr) | (have := HW5.out; subst this; exact hpr))).mono ?_
        rintro e w6 ⟨hb6, hh⟩
        have hA := HB5.out.alloc HB5.out.size (.cells #[.int .i64 x, .int .i64 (M : Int), .int .i64 y, .int .i64 (N : Int)] 53)
        have HB6 : Hid (Below w.heap.size w w6) := by
          first
            | exact hA.trans (Below.mono hb6 hA.size)
            | (rw [← HW5.out] at hA; exact hA.trans (Below.mono hb6 hA.size))
        clear hA
        have hnp : natP [(x, (M : Int)), (y, (N : Int))] = [(x.toNat, M), (y.toNat, N)] := by simp [natP]
        rw [hnp] at hh
        rcases hh with ⟨n', m', hs, hm18, rfl⟩ | ⟨ho, _⟩
        · obtain ⟨e1, e2⟩ := units_join hM1 hN1 HGG.out x2 x3 X1.out y2 y3 Y1.out z2 (by rw [HKK.out]; exact z3) (by rw [HKK.out]; exact Z1.out) hs
          have dm : ((m' : Int) == (K : Int)) = true := by rw [e2, HKK.out]; simp
          have dn : ((n' : Int) == z) = true := by rw [e1]; simp
          clear e1 e2 hs hb6 hnp
          go_wp2_with fail
          go_ret
          exact ⟨by simp, HB6.out⟩
        · exact (not_odds2 HGG.out ho).elim
      · exact absurd (hcop.2 ⟨x1, y1⟩) z1
    · have hE6 : E6 = 4 := by
        rcases hz with ⟨z1, _⟩ | ⟨_, h⟩
        · exact absurd (hcop.1 z1).2 y1
        · exact h
      subst hE6
      clear hcop hz x4
      go_wp2_with fail
      refine (HGD.out _ _ _ (Lib.hid (reads_new _ _ _))).mono ?_
      rintro e1 w' ⟨rfl, q7, rfl⟩
      go_wp2_with fail
      go_ret
      exact ⟨by simp, by repeat (first | exact HB4.out | apply below_drewN | (refine Below.alloc ?_ (by have := HB4.out.size; simp <;> omega) _))⟩
  · have hE6 : E6 = 4 := by
      rcases hz with ⟨z1, _⟩ | ⟨_, h⟩
      · exact absurd (hcop.1 z1).1 x1
      · exact h
    subst hE6
    rcases hy with ⟨y1, rfl, y2, y3, y4⟩ | ⟨y1, rfl⟩
    · clear hcop hz y4
      go_wp2_with fail
      refine (HGD.out _ _ _ (Lib.hid (reads_new _ _ _))).mono ?_
      rintro e1 w' ⟨rfl, q7, rfl⟩
      go_wp2_with fail
      go_ret
      exact ⟨by simp, by repeat (first | exact HB4.out | apply below_drewN | (refine Below.alloc ?_ (by have := HB4.out.size; simp <;> omega) _))⟩
    · clear hcop hz
      go_wp2_with fail
      refine (HGD.out _ _ _ (Lib.hid (reads_new _ _ _))).mono ?_
      rintro e1 w' ⟨rfl, q7, rfl⟩
      go_wp2_with fail
      go_ret
      exact ⟨by simp, by repeat (first | exact HB4.out | apply below_drewN | (refine Below.alloc ?_ (by have := HB4.out.size; simp <;> omega) _))⟩
theorem topUnits_walk (m n a : Int) (w : World) (hm : (Lit.int .i64 m).wf = true) (hn : (Lit.int .i64 n).wf = true) (ha : (Lit.int .i64 a).wf = true) :
    Calls Try.prog 6 #[.int .i64 m, .int .i64 n, .int .i64 a] w fun e w' => e = .returned (.bool true) ∧ Below w.heap.size w w' := by
  have am : -9223372036854775808 ≤ m ∧ m ≤ 9223372036854775807 := by simpa [Lit.wf, IntKind.min, IntKind.max, IntKind.signed, IntKind.bits] using hm
  have an : -9223372036854775808 ≤ n ∧ n ≤ 9223372036854775807 := by simpa [Lit.wf, IntKind.min, IntKind.max, IntKind.signed, IntKind.bits] using hn
  have aa : -9223372036854775808 ≤ a ∧ a ≤ 9223372036854775807 := by simpa [Lit.wf, IntKind.min, IntKind.max, IntKind.signed, IntKind.bits] using ha
  obtain ⟨M, hM⟩ : ∃ M : Nat, 1 + m % 300 = (M : Int) := ⟨(1 + m % 300).toNat, by omega⟩
  obtain ⟨N, hN⟩ : ∃ N : Nat, 1 + n % 300 = (N : Int) := ⟨(1 + n % 300).toNat, by omega⟩
  by_cases hg : Nat.gcd M N = 1
  · exact topUnits_eq m n a M N w aa.1 aa.2 am an hM hN (by omega) (by omega) hg
  · exact topUnits_ne m n a M N w aa.1 aa.2 am an hM hN (by omega) (by omega) hg
end Go.Proofs.Ytkincmkmkfiglaa
