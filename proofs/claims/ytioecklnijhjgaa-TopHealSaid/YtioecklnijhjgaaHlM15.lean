/- Contracts of the reference's Steps, Through and RowOf. -/
import Derived.Test.YtioecklnijhjgaaRows
import Derived.Test.YtioecklnijhjgaaReed
import Derived.Test.YtioecklnijhjgaaHlM3
import Derived.Deep.RegionHeld3
import Derived.Deep.RegionLaw
import Derived.Deep.DrawnRows
namespace Go.Proofs.Ytioecklnijhjgaa
open Go.RowKit

attribute [local go_sem ↓] Go.wp_at_zero Go.wp_at_succ
/-- The differences while stage n is at place i. -/
def stepX (xs ys : Nat → GF) (n : Nat) (i : Int) (j : Nat) : GF := if i < (j : Int) then dd xs ys (min n j) j else dd xs ys (min (n - 1) j) j
def StepsPost (xs ys : Nat → GF) (k : Nat) (w : World) (e : Ending) (w' : World) : Prop :=
  ∃ g cap, e = .returned (.slice (some ⟨g, 0, none⟩) k cap) ∧ Own w' w.heap.size 5 g k cap (gfV fun j => dd xs ys j j) ∧ Below w.heap.size w w'
set_option maxRecDepth 100000 in
set_option maxHeartbeats 4000000 in
theorem ref_Steps (xs ys : Nat → GF) (k : Nat) (ao bo : Option Addr) (cap cap2 : Nat) (w : World) (hk1 : 1 ≤ k) (hk : k ≤ 256) (hx : Hid (Reads w ao (rowF k (gfV xs)))) (hy : Hid (Reads w bo (rowF k (gfV ys)))) :
    Calls Try.prog 78 #[.slice ao k cap, .slice bo k cap2] w (StepsPost xs ys k w) := by
  obtain ⟨b2, o2, rfl, _⟩ := hy.out 0 _ (rowF_get (gfV ys) (by omega))
  go_enter Try.func78, Try.ntmps78
  go_wp2_with fail
  refine (clone_u8 k (rowF k (gfV ys)) (some ⟨b2, o2, none⟩) cap2 w.heap.size w (by omega) (rowF_length _ _) (fun h => by cases h) hy.out (rowF_one (fun j => rfl)) (Nat.le_refl _)).mono ?_
  rintro e w1 ⟨v, rfl, hown, hb1⟩
  obtain ⟨g, cp, rfl⟩ := own_form hown (by
    intro h
    have := rowF_length k (gfV ys)
    rw [h] at this; simp at this; omega)
  have hO1 : Hid (Own w1 w.heap.size 5 g k cp (gfV (stepX xs ys 0 ((k : Int) - 1)))) := Own.congr (f := gfV ys) hown fun j hj => by
    unfold gfV stepX
    rw [if_neg (by omega)]
    simp [dd]
  have HB1 := Lib.hid hb1
  clear hown hb1
  go_wp2_with fail
  go_loopw [6] (fun vn wr => ∃ n : Nat, vn = .int .i64 n ∧ 1 ≤ n ∧ n ≤ k ∧ Hid (Own wr w.heap.size 5 g k cp (gfV (stepX xs ys (n - 1) ((n : Int) - 2)))) ∧ Hid (Below w.heap.size w wr)) (fun vn _ => k - (intOf vn).toNat)
  case atStart => exact ⟨1, rfl, by omega, by omega, hO1.out.congr fun j hj => by
    unfold gfV stepX
    rw [if_neg (by omega), if_pos (by omega)], HB1⟩
  case round =>
    obtain ⟨n, rfl, hn1, hnk, hO, hb⟩ := hrel
    by_cases hn2 : n < k
    · have hO2 : Hid (Own wr w.heap.size 5 g k cp (gfV (stepX xs ys n ((k : Int) - 1)))) := hO.out.congr fun j hj => by
        unfold gfV stepX
        rw [if_neg (show ¬ (k : Int) - 1 < (j : Int) by omega)]
        split
        · rfl
        · rw [show min (n - 1) j = j by omega, show min (n - 1 - 1) j = j by omega]
      go_wp2_with fail
      go_loopw [7] (fun vi wi => ∃ i : Int, vi = .int .i64 i ∧ (n : Int) - 1 ≤ i ∧ i ≤ (k : Int) - 1 ∧ Hid (Own wi w.heap.size 5 g k cp (gfV (stepX xs ys n i))) ∧ Hid (Below w.heap.size w wi)) (fun vi _ => (intOf vi + 1).toNat)
      case atStart => exact ⟨(k : Int) - 1, rfl, by omega, by omega, hO2, hb⟩
      case round =>
        obtain ⟨i, rfl, hi1, hi2, hO3, hb3⟩ := hrel
        by_cases hin : (n : Int) ≤ i
        · obtain ⟨I, rfl⟩ := Int.eq_ofNat_of_zero_le (show 0 ≤ i by omega)
          obtain ⟨J, hJ⟩ : ∃ J, I - 1 = J := ⟨_, rfl⟩
          obtain ⟨T, hT⟩ : ∃ T, I - n = T := ⟨_, rfl⟩
          have hIk : I < k := by omega
          have c1 := hO3.out.cell hIk
          have c2 := hO3.out.cell (show J < k by omega)
          obtain ⟨b3, o3, rfl, c3⟩ := (hx.out.below hb3.out) I _ (rowF_get (gfV xs) hIk)
          obtain ⟨b4, o4, ha4, c4⟩ := (hx.out.below hb3.out) T _ (rowF_get (gfV xs) (by omega))
          injection ha4 with ha4
          injection ha4 with hb4 ho4
          subst hb4 ho4
          have f1 := hO3.out.frozen I
          unfold gfV at c1 c2 c3 c4
          have s1 : stepX xs ys n (I : Int) I = dd xs ys (n - 1) I := by unfold stepX; rw [if_neg (by omega), show min (n - 1) I = n - 1 by omega]
          have s2 : stepX xs ys n (I : Int) J = dd xs ys (n - 1) J := by unfold stepX; rw [if_neg (by omega), show min (n - 1) J = n - 1 by omega]
          rw [s1] at c1
          rw [s2] at c2
          obtain ⟨a, ha⟩ : ∃ a, (dd xs ys (n - 1) I).val = a := ⟨_, rfl⟩
          obtain ⟨b, hbb⟩ : ∃ b, (dd xs ys (n - 1) J).val = b := ⟨_, rfl⟩
          obtain ⟨p, hp⟩ : ∃ p, (xs I).val = p := ⟨_, rfl⟩
          obtain ⟨q, hq⟩ : ∃ q, (xs T).val = q := ⟨_, rfl⟩
          rw [ha] at c1
          rw [hbb] at c2
          rw [hp] at c3
          rw [hq] at c4
          have a1 : a < 256 := by rw [← ha]; exact GF.lt _
          have b1 : b < 256 := by rw [← hbb]; exact GF.lt _
          have p1 : p < 256 := by rw [← hp]; exact GF.lt _
          have q1 : q < 256 := by rw [← hq]; exact GF.lt _
          obtain ⟨ab, hab⟩ : ∃ ab : Nat, a ^^^ b = ab := ⟨_, rfl⟩
          obtain ⟨pq, hpq⟩ : ∃ pq : Nat, p ^^^ q = pq := ⟨_, rfl⟩
          have ab1 : ab < 256 := by rw [← hab]; exact xor_lt256 a1 b1
          have pq1 : pq < 256 := by rw [← hpq]; exact xor_lt256 p1 q1
          have e1 : bits .xor .u8 (a : Int) (b : Int) = (ab : Int) := by rw [u8_xor_nat a b a1 b1, hab]
          have e2 : bits .xor .u8 (p : Int) (q : Int) = (pq : Int) := by rw [u8_xor_nat p q p1 q1, hpq]
          obtain ⟨iv, hiv⟩ : ∃ iv, ginv pq = iv := ⟨_, rfl⟩
          have iv1 : iv < 256 := by rw [← hiv]; exact ginv_lt pq1
          obtain ⟨r, hr⟩ : ∃ r, gmul ab iv = r := ⟨_, rfl⟩
          have hnew : Hid (r = (dd xs ys n I).val) := by
            show _ = _
            obtain ⟨m, rfl⟩ : ∃ m, n = m + 1 := ⟨n - 1, by omega⟩
            show _ = ((dd xs ys m I + -dd xs ys m (I - 1)) * (xs I + -xs (I - (m + 1)))⁻¹).val
            rw [GF.mul_val, GF.inv_val, GF.sub_val, GF.sub_val, hJ, hT, hp, hq, hpq, hiv]
            rw [show m + 1 - 1 = m by omega] at ha hbb
            rw [ha, hbb, hab, hr]
          have C1 := Lib.hid (ref_Undo pq · pq1)
          have C2 := Lib.hid (ref_Times ab iv · ab1 iv1)
          rw [hiv] at C1
          rw [hr] at C2
          have st := hO3.out.store I (.int .u8 (r : Int))
          have hO4 := Lib.hid (st.1.congr (f' := gfV (stepX xs ys n (J : Int))) fun j _ => by
            unfold gfV
            by_cases hj : j = I
            · subst hj
              rw [if_pos rfl, hnew.out]
              unfold stepX
              rw [if_pos (by omega), show min n j = n by omega]
            · rw [if_neg hj]
              unfold stepX
              by_cases h5 : (I : Int) < (j : Int)
              · rw [if_pos h5, if_pos (by omega)]
              · rw [if_neg h5, if_neg (by omega)])
          have hb4 := Lib.hid (hO3.out.belowStore hb3.out (Nat.le_refl _) I (.int .u8 (r : Int)))
          have w1 : IntKind.i64.wrap ((I : Int) - 1) = (J : Int) := by rw [show (I : Int) - 1 = (J : Int) by omega]; exact IntWalk.i64_in _ (by omega)
          have w2 : IntKind.i64.wrap ((I : Int) - (n : Int)) = (T : Int) := by rw [show (I : Int) - (n : Int) = (T : Int) by omega]; exact IntWalk.i64_in _ (by omega)
          have i0 : (0 : Int) ≤ I := by omega
          have i1 : (I : Int) < k := by omega
          have j0 : (0 : Int) ≤ J := by omega
          have j1 : (J : Int) < k := by omega
          have t0 : (0 : Int) ≤ T := by omega
          have t1 : (T : Int) < k := by omega
          have jI1 : (I : Int) ≤ (J : Int) + 1 := by omega
          have jI2 : (J : Int) + 1 ≤ (I : Int) := by omega
          clear st s1 s2 ha hbb hp hq hab hpq hiv hr hJ hT
          go_wp2_with fail
          go_region_law (first | (go_simp; go_at_call 89; refine (C1.out _).mono ?_; rintro e w' ⟨rfl, m1, rfl⟩) | (go_simp; go_at_call 88; refine (C2.out _).mono ?_; rintro e w' ⟨rfl, m2, rfl⟩))
          all_goals
            go_wp2_with fail
            go_roundw
            case rel => exact ⟨(J : Int), by first | rfl | go_num, by omega, by omega, by exact hO4.out, ⟨hb4.out.os, hb4.out.tape, hb4.out.output, hb4.out.size, hb4.out.block⟩⟩
            case measure => simp [intOf]; omega
        · have hO4 := Lib.hid (hO3.out.congr (f' := gfV (stepX xs ys (n + 1 - 1) (((n + 1 : Nat) : Int) - 2))) fun j _ => by
            have hin2 : i = (n : Int) - 1 := by omega
            unfold gfV
            rw [show n + 1 - 1 = n by omega, show ((n + 1 : Nat) : Int) - 2 = i by omega])
          go_wp2_with fail
          go_roundw
          case rel => exact ⟨n + 1, by go_num, by omega, by omega, hO4, hb3⟩
          case measure => simp [intOf]; omega
    · have hfin : Hid (StepsPost xs ys k w (.returned (.slice (some ⟨g, 0, none⟩) k cp)) wr) := ⟨g, cp, rfl, hO.out.congr fun j hj => by
        have hnk2 : n = k := by omega
        unfold gfV stepX
        split
        · rw [show min (n - 1) j = j by omega]
        · rw [show min (n - 1 - 1) j = j by omega], hb.out⟩
      go_wp2_with fail
      go_ret
      exact hfin.out
end Go.Proofs.Ytioecklnijhjgaa
namespace Go.Proofs.Ytioecklnijhjgaa
open Go.RowKit

set_option maxRecDepth 100000 in
set_option maxHeartbeats 2000000 in
theorem ref_Through (xs d : Nat → GF) (x k : Nat) (ao bo : Option Addr) (cap cap2 : Nat) (w : World) (hx1 : x < 256) (hk : k ≤ 256) (hx : Hid (Reads w ao (rowF k (gfV xs)))) (hd : Hid (Reads w bo (rowF k (gfV d)))) :
    Calls Try.prog 79 #[.slice ao k cap, .slice bo k cap2, .int .u8 x] w fun e w' => e = .returned (.int .u8 ((horN xs d (gf x) 0 k).val : Nat)) ∧ ∃ n, w' = w.drewN n := by
  go_enter Try.func79, Try.ntmps79
  go_wp2_with fail
  go_loopw [7, 8] (fun vo vi wr => ∃ (c o : Nat), vi = .int .i64 ((c : Int) - 1) ∧ c ≤ k ∧ vo = .int .u8 o ∧ o < 256 ∧ Hid (o = (horN xs d (gf x) c (k - c)).val) ∧ ∃ n, wr = w.drewN n) (fun _ vi _ => (intOf vi + 1).toNat)
  case atStart => exact ⟨k, 0, rfl, by omega, rfl, by omega, by show _ = _; rw [Nat.sub_self]; rfl, 0, rfl⟩
  case round =>
    obtain ⟨c, o, rfl, hck, rfl, ho, hoe, q, rfl⟩ := hrel
    by_cases hc0 : c = 0
    · subst hc0
      have hR : Hid (o = (horN xs d (gf x) 0 k).val) := by have := hoe.out; rwa [Nat.sub_zero] at this
      go_wp2_with fail
      go_ret
      exact ⟨by rw [← hR.out]; rfl, _, rfl⟩
    · obtain ⟨I, hI⟩ : ∃ I, c = I + 1 := ⟨c - 1, by omega⟩
      have hci : (c : Int) - 1 = (I : Int) := by omega
      have hIk : I < k := by omega
      obtain ⟨b1, o1, rfl, c1⟩ := hx.out I _ (rowF_get (gfV xs) hIk)
      obtain ⟨b2, o2, rfl, c2⟩ := hd.out I _ (rowF_get (gfV d) hIk)
      unfold gfV at c1 c2
      obtain ⟨p, hp⟩ : ∃ p, (xs I).val = p := ⟨_, rfl⟩
      obtain ⟨q2, hq⟩ : ∃ q2, (d I).val = q2 := ⟨_, rfl⟩
      have p1 : p < 256 := by rw [← hp]; exact GF.lt _
      have q1 : q2 < 256 := by rw [← hq]; exact GF.lt _
      rw [hp] at c1
      rw [hq] at c2
      obtain ⟨xp, hxp⟩ : ∃ xp : Nat, x ^^^ p = xp := ⟨_, rfl⟩
      have xp1 : xp < 256 := by rw [← hxp]; exact xor_lt256 hx1 p1
      have e1 : bits .xor .u8 (x : Int) (p : Int) = (xp : Int) := by rw [u8_xor_nat x p hx1 p1, hxp]
      obtain ⟨r, hr⟩ : ∃ r, gmul o xp = r := ⟨_, rfl⟩
      have r1 : r < 256 := by rw [← hr]; exact gmul_lt ho
      obtain ⟨o2', ho2⟩ : ∃ o2 : Nat, r ^^^ q2 = o2 := ⟨_, rfl⟩
      have o21 : o2' < 256 := by rw [← ho2]; exact xor_lt256 r1 q1
      have e2 : bits .xor .u8 (r : Int) (q2 : Int) = (o2' : Int) := by rw [u8_xor_nat r q2 r1 q1, ho2]
      have hnew : Hid (o2' = (horN xs d (gf x) I (k - I)).val) := by
        show _ = _
        rw [show k - I = (k - (I + 1)) + 1 by omega]
        simp only [horN]
        rw [GF.add_val, GF.mul_val, GF.sub_val, gf_val hx1, hp, hq, hxp, ← hI, ← hoe.out, hr, ho2]
      have C := Lib.hid (ref_Times o xp · ho xp1)
      rw [hr] at C
      have i0 : (0 : Int) ≤ I := by omega
      have i1 : (I : Int) < k := by omega
      have HI := Lib.hid hI
      have hlt : Hid (I < c) := by show _ < _; omega
      clear hp hq hxp hr ho2 hI
      go_wp2_with fail
      go_quiet ((go_at_call 88; (first | exact quiet_at C.out | exact quiet_on C.out)))
      go_wp2_with fail
      go_roundw
      case rel => exact ⟨I, o2', rfl, by omega, rfl, o21, hnew, by first | exact dr2 _ _ _ | exact ⟨_, rfl⟩⟩
      case measure => have := hlt.out; simp [intOf]; omega
end Go.Proofs.Ytioecklnijhjgaa
