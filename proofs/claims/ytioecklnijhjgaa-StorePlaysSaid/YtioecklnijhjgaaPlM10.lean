/- Contracts of the reference's Steps, Through and RowOf. -/
import Derived.Test.YtioecklnijhjgaaRows
import Derived.Test.YtioecklnijhjgaaPlM9
import Derived.Test.YtioecklnijhjgaaPlM2
import Derived.Deep.RegionHeld3
import Derived.Deep.RegionLaw
import Derived.Deep.DrawnRows
set_option linter.unusedVariables false
set_option linter.unusedSimpArgs false
namespace Go.Proofs.Ytioecklnijhjgaa
open Go.RowKit

attribute [local go_sem ↓] Go.wp_at_zero Go.wp_at_succ
/-- The differences while stage n is at place i. -/
def stepX (xs ys : Nat → GF) (n : Nat) (i : Int) (j : Nat) : GF := if i < (j : Int) then dd xs ys (min n j) j else dd xs ys (min (n - 1) j) j
def StepsPost (xs ys : Nat → GF) (k : Nat) (w : World) (e : Ending) (w' : World) : Prop :=
  ∃ g cap, e = .returned (.slice (some ⟨g, 0, none⟩) k cap) ∧ Own w' w.heap.size 5 g k cap (gfV fun j => dd xs ys j j) ∧ Below w.heap.size w w'
set_option maxRecDepth 100000 in
set_option maxHeartbeats 4000000 in
theorem ref_Steps (xs ys : Nat → GF) (k : Nat) (ao bo : Option Addr) (cap cap2 : Nat) (w : World) (hk1 : 1 ≤ k) (hk : k ≤ 256) (hx : Hid (Reads w ao (rowF k (gfV xs)))) (hy : Hid (Reads w bo (rowF k (gfV ys)))) :
    Calls Try.prog 78 #[.slice ao k cap, .slice bo k cap2] w (StepsPost xs ys k w) := by
  obtain ⟨b2, o2, rfl, _⟩ := hy.out 0 _ (rowF_get (gfV ys) (by omega))
  go_enter Try.func78, Try.ntmps78
  go_wp2_with fail
  refine (clone_u8 k (rowF k (gfV ys)) (some ⟨b2, o2, none⟩) cap2 w.heap.size w (by omega) (rowF_length _ _) (fun h => by cases h) hy.out (rowF_one (fun j => rfl)) (Nat.le_refl _)).mono ?_
  rintro e w1 ⟨v, rfl, hown, hb1⟩
  obtain ⟨g, cp, rfl⟩ := own_form hown (by
    intro h
    have := rowF_length k (gfV ys)
    rw [h] at this; simp at this; omega)
  have hO1 : Hid (Own w1 w.heap.size 5 g k cp (gfV (stepX xs ys 0 ((k : Int) - 1)))) := Own.congr (f := gfV ys) hown fun j hj => by
    unfold gfV stepX
    rw [if_neg (by omega)]
    simp [dd]
  have HB1 := Lib.hid hb1
  clear hown hb1
  go_wp2_with fail
  go_loopw [6] (fun vn wr => ∃ n : Nat, vn = .int .i64 n ∧ 1 ≤ n ∧ n ≤ k ∧ Hid (Own wr w.heap.size 5 g k cp (gfV (stepX xs ys (n - 1) ((n : Int) - 2)))) ∧ Hid (Below w.heap.size w wr)) (fun vn _ => k - (intOf vn).toNat)
  case atStart => exact ⟨1, rfl, by omega, by omega, hO1.out.congr fun j hj => by
    unfold gfV stepX
    rw [if_neg (by omega), if_pos (by omega)], HB1⟩
  case round =>
    obtain ⟨n, rfl, hn1, hnk, hO, hb⟩ := hrel
    by_cases hn2 : n < k
    · have hO2 : Hid (Own wr w.heap.size 5 g k cp (gfV (stepX xs ys n ((k : Int) - 1)))) := hO.out.congr fun j hj => by
        unfold gfV stepX
        rw [if_neg (show ¬ (k : Int) - 1 < (j : Int) by omega)]
        split
        · rfl
        · rw [show min (n - 1) j = j by omega, show min (n - 1 - 1) j = j by omega]
      go_wp2_with fail
      go_loopw [7] (fun vi wi => ∃ i : Int, vi = .int .i64 i ∧ (n : Int) - 1 ≤ i ∧ i ≤ (k : Int) - 1 ∧ Hid (Own wi w.heap.size 5 g k cp (gfV (stepX xs ys n i))) ∧ Hid (Below w.heap.size w wi)) (fun vi _ => (intOf vi + 1).toNat)
      case atStart => exact ⟨(k : Int) - 1, rfl, by omega, by omega, hO2, hb⟩
      case round =>
        obtain ⟨i, rfl, hi1, hi2, hO3, hb3⟩ := hrel
        by_cases hin : (n : Int) ≤ i
        · obtain ⟨I, rfl⟩ := Int.eq_ofNat_of_zero_le (show 0 ≤ i by omega)
          obtain ⟨J, hJ⟩ : ∃ J, I - 1 = J := ⟨_, rfl⟩
          obtain ⟨T, hT⟩ : ∃ T, I - n = T := ⟨_, rfl⟩
          have hIk : I < k := by omega
          have c1 := hO3.out.cell hIk
          have c2 := hO3.out.cell (show J < k by omega)
          obtain ⟨b3, o3, rfl, c3⟩ := (hx.out.below hb3.out) I _ (rowF_get (gfV xs) hIk)
          obtain ⟨b4, o4, ha4, c4⟩ := (hx.out.below hb3.out) T _ (rowF_get (gfV xs) (by omega))
          injection ha4 with ha4
          injection ha4 with hb4 ho4
          subst hb4 ho4
          have f1 := hO3.out.frozen I
          unfold gfV at c1 c2 c3 c4
          have s1 : stepX xs ys n (I : Int) I = dd xs ys (n - 1) I := by unfold stepX; rw [if_neg (by omega), show min (n - 1) I = n - 1 by omega]
          have s2 : stepX xs ys n (I : Int) J = dd xs ys (n - 1) J := by unfold stepX; rw [if_neg (by omega), show min (n - 1) J = n - 1 by omega]
          rw [s1] at c1
          rw [s2] at c2
          obtain ⟨a, ha⟩ : ∃ a, (dd xs ys (n - 1) I).val = a := ⟨_, rfl⟩
          obtain ⟨b, hbb⟩ : ∃ b, (dd xs ys (n - 1) J).val = b := ⟨_, rfl⟩
          obtain ⟨p, hp⟩ : ∃ p, (xs I).val = p := ⟨_, rfl⟩
          obtain ⟨q, hq⟩ : ∃ q, (xs T).val = q := ⟨_, rfl⟩
          rw [ha] at c1
          rw [hbb] at c2
          rw [hp] at c3
          rw [hq] at c4
          have a1 : a < 256 := by rw [← ha]; exact GF.lt _
          have b1 : b < 256 := by rw [← hbb]; exact GF.lt _
          have p1 : p < 256 := by rw [← hp]; exact GF.lt _
          have q1 : q < 256 := by rw [← hq]; exact GF.lt _
          obtain ⟨ab, hab⟩ : ∃ ab : Nat, a ^^^ b = ab := ⟨_, rfl⟩
          obtain ⟨pq, hpq⟩ : ∃ pq : Nat, p ^^^ q = pq := ⟨_, rfl⟩
          have ab1 : ab < 256 := by rw [← hab]; exact xor_lt256 a1 b1
          have pq1 : pq < 256 := by rw [← hpq]; exact xor_lt256 p1 q1
          have e1 : bits .xor .u8 (a : Int) (b : Int) = (ab : Int) := by rw [u8_xor_nat a b a1 b1, hab]
          have e2 : bits .xor .u8 (p : Int) (q : Int) = (pq : Int) := by rw [u8_xor_nat p q p1 q1, hpq]
          obtain ⟨iv, hiv⟩ : ∃ iv, ginv pq = iv := ⟨_, rfl⟩
          have iv1 : iv < 256 := by rw [← hiv]; exact ginv_lt pq1
          obtain ⟨r, hr⟩ : ∃ r, gmul ab iv = r := ⟨_, rfl⟩
          have hnew : Hid (r = (dd xs ys n I).val) := by
            show _ = _
            obtain ⟨m, rfl⟩ : ∃ m, n = m + 1 := ⟨n - 1, by omega⟩
            show _ = ((dd xs ys m I + -dd xs ys m (I - 1)) * (xs I + -xs (I - (m + 1)))⁻¹).val
            rw [GF.mul_val, GF.inv_val, GF.sub_val, GF.sub_val, hJ, hT, hp, hq, hpq, hiv]
            rw [show m + 1 - 1 = m by omega] at ha hbb
            rw [ha, hbb, hab, hr]
          have C1 := Lib.hid (ref_Undo pq · pq1)
          have C2 := Lib.hid (ref_Times ab iv · ab1 iv1)
          rw [hiv] at C1
          rw [hr] at C2
          have st := hO3.out.store I (.int .u8 (r : Int))
          have hO4 := Lib.hid (st.1.congr (f' := gfV (stepX xs ys n (J : Int))) fun j _ => by
            unfold gfV
            by_cases hj : j = I
            · subst hj
              rw [if_pos rfl, hnew.out]
              unfold stepX
              rw [if_pos (by omega), show min n j = n by omega]
            · rw [if_neg hj]
              unfold stepX
              by_cases h5 : (I : Int) < (j : Int)
              · rw [if_pos h5, if_pos (by omega)]
              · rw [if_neg h5, if_neg (by omega)])
          have hb4 := Lib.hid (hO3.out.belowStore hb3.out (Nat.le_refl _) I (.int .u8 (r : Int)))
          have w1 : IntKind.i64.wrap ((I : Int) - 1) = (J : Int) := by rw [show (I : Int) - 1 = (J : Int) by omega]; exact IntWalk.i64_in _ (by omega)
          have w2 : IntKind.i64.wrap ((I : Int) - (n : Int)) = (T : Int) := by rw [show (I : Int) - (n : Int) = (T : Int) by omega]; exact IntWalk.i64_in _ (by omega)
          have i0 : (0 : Int) ≤ I := by omega
          have i1 : (I : Int) < k := by omega
          have j0 : (0 : Int) ≤ J := by omega
          have j1 : (J : Int) < k := by omega
          have t0 : (0 : Int) ≤ T := by omega
          have t1 : (T : Int) < k := by omega
          have jI1 : (I : Int) ≤ (J : Int) + 1 := by omega
          have jI2 : (J : Int) + 1 ≤ (I : Int) := by omega
          clear st s1 s2 ha hbb hp hq hab hpq hiv hr hJ hT
          go_wp2_with fail
          go_region_law (first | (go_simp; go_at_call 89; refine (C1.out _).mono ?_; rintro e w' ⟨rfl, m1, rfl⟩) | (go_simp; go_at_call 88; refine (C2.out _).mono ?_; rintro e w' ⟨rfl, m2, rfl⟩))
          all_goals
            go_wp2_with fail
            go_roundw
            case rel => exact ⟨(J : Int), by first | rfl | go_num, by omega, by omega, by exact hO4.out, ⟨hb4.out.os, hb4.out.tape, hb4.out.output, hb4.out.size, hb4.out.block⟩⟩
            case measure => simp [intOf]; omega
        · have hO4 := Lib.hid (hO3.out.congr (f' := gfV (stepX xs ys (n + 1 - 1) (((n + 1 : Nat) : Int) - 2))) fun j _ => by
            have hin2 : i = (n : Int) - 1 := by omega
            unfold gfV
            rw [show n + 1 - 1 = n by omega, show ((n + 1 : Nat) : Int) - 2 = i by omega])
          go_wp2_with fail
          go_roundw
          case rel => exact ⟨n + 1, by go_num, by omega, by omega, hO4, hb3⟩
          case measure => simp [intOf]; omega
    · have hfin : Hid (StepsPost xs ys k w (.returned (.slice (some ⟨g, 0, none⟩) k cp)) wr) := ⟨g, cp, rfl, hO.out.congr fun j hj => by
        have hnk2 : n = k := by omega
        unfold gfV stepX
        split
        · rw [show min (n - 1) j = j by omega]
        · rw [show min (n - 1 - 1) j = j by omega], hb.out⟩
      go_wp2_with fail
      go_ret
      exact hfin.out
end Go.Proofs.Ytioecklnijhjgaa
namespace Go.Proofs.Ytioecklnijhjgaa
open Go.RowKit

set_option maxRecDepth 100000 in
set_option maxHeartbeats 2000000 in
theorem ref_Through (xs d : Nat → GF) (x k : Nat) (ao bo : Option Addr) (cap cap2 : Nat) (w : World) (hx1 : x < 256) (hk : k ≤ 256) (hx : Hid (Reads w ao (rowF k (gfV xs)))) (hd : Hid (Reads w bo (rowF k (gfV d)))) :
    Calls Try.prog 79 #[.slice ao k cap, .slice bo k cap2, .int .u8 x] w fun e w' => e = .returned (.int .u8 ((horN xs d (gf x) 0 k).val : Nat)) ∧ ∃ n, w' = w.drewN n := by
  go_enter Try.func79, Try.ntmps79
  go_wp2_with fail
  go_loopw [7, 8] (fun vo vi wr => ∃ (c o : Nat), vi = .int .i64 ((c : Int) - 1) ∧ c ≤ k ∧ vo = .int .u8 o ∧ o < 256 ∧ Hid (o = (horN xs d (gf x) c (k - c)).val) ∧ ∃ n, wr = w.drewN n) (fun _ vi _ => (intOf vi + 1).toNat)
  case atStart => exact ⟨k, 0, rfl, by omega, rfl, by omega, by show _ = _; rw [Nat.sub_self]; rfl, 0, rfl⟩
  case round =>
    obtain ⟨c, o, rfl, hck, rfl, ho, hoe, q, rfl⟩ := hrel
    by_cases hc0 : c = 0
    · subst hc0
      have hR : Hid (o = (horN xs d (gf x) 0 k).val) := by have := hoe.out; rwa [Nat.sub_zero] at this
      go_wp2_with fail
      go_ret
      exact ⟨by rw [← hR.out]; rfl, _, rfl⟩
    · obtain ⟨I, hI⟩ : ∃ I, c = I + 1 := ⟨c - 1, by omega⟩
      have hci : (c : Int) - 1 = (I : Int) := by omega
      have hIk : I < k := by omega
      obtain ⟨b1, o1, rfl, c1⟩ := hx.out I _ (rowF_get (gfV xs) hIk)
      obtain ⟨b2, o2, rfl, c2⟩ := hd.out I _ (rowF_get (gfV d) hIk)
      unfold gfV at c1 c2
      obtain ⟨p, hp⟩ : ∃ p, (xs I).val = p := ⟨_, rfl⟩
      obtain ⟨q2, hq⟩ : ∃ q2, (d I).val = q2 := ⟨_, rfl⟩
      have p1 : p < 256 := by rw [← hp]; exact GF.lt _
      have q1 : q2 < 256 := by rw [← hq]; exact GF.lt _
      rw [hp] at c1
      rw [hq] at c2
      obtain ⟨xp, hxp⟩ : ∃ xp : Nat, x ^^^ p = xp := ⟨_, rfl⟩
      have xp1 : xp < 256 := by rw [← hxp]; exact xor_lt256 hx1 p1
      have e1 : bits .xor .u8 (x : Int) (p : Int) = (xp : Int) := by rw [u8_xor_nat x p hx1 p1, hxp]
      obtain ⟨r, hr⟩ : ∃ r, gmul o xp = r := ⟨_, rfl⟩
      have r1 : r < 256 := by rw [← hr]; exact gmul_lt ho
      obtain ⟨o2', ho2⟩ : ∃ o2 : Nat, r ^^^ q2 = o2 := ⟨_, rfl⟩
      have o21 : o2' < 256 := by rw [← ho2]; exact xor_lt256 r1 q1
      have e2 : bits .xor .u8 (r : Int) (q2 : Int) = (o2' : Int) := by rw [u8_xor_nat r q2 r1 q1, ho2]
      have hnew : Hid (o2' = (horN xs d (gf x) I (k - I)).val) := by
        show _ = _
        rw [show k - I = (k - (I + 1)) + 1 by omega]
        simp only [horN]
        rw [GF.add_val, GF.mul_val, GF.sub_val, gf_val hx1, hp, hq, hxp, ← hI, ← hoe.out, hr, ho2]
      have C := Lib.hid (ref_Times o xp · ho xp1)
      rw [hr] at C
      have i0 : (0 : Int) ≤ I := by omega
      have i1 : (I : Int) < k := by omega
      have HI := Lib.hid hI
      have hlt : Hid (I < c) := by show _ < _; omega
      clear hp hq hxp hr ho2 hI
      go_wp2_with fail
      go_quiet ((go_at_call 88; (first | exact quiet_at C.out | exact quiet_on C.out)))
      go_wp2_with fail
      go_roundw
      case rel => exact ⟨I, o2', rfl, by omega, rfl, o21, hnew, by first | exact dr2 _ _ _ | exact ⟨_, rfl⟩⟩
      case measure => have := hlt.out; simp [intOf]; omega
end Go.Proofs.Ytioecklnijhjgaa
namespace Go.Proofs.Ytioecklnijhjgaa
open Go.RowKit

def RowOfPost (xs ys : Nat → GF) (k n : Nat) (w : World) (e : Ending) (w' : World) : Prop :=
  ∃ v, e = .returned v ∧ w'.ownsRow w.heap.size 5 1 v n (rowF n (gfV fun j => lag xs ys k (gf j))) ∧ Below w.heap.size w w'
theorem hor_lag (xs ys : Nat → GF) (k : Nat) (hk : 1 ≤ k) (hd : ∀ i j, i < k → j < k → i ≠ j → xs i ≠ xs j) (x : GF) : horN xs (fun j => dd xs ys j j) x 0 k = lag xs ys k x := by
  obtain ⟨n, rfl⟩ : ∃ n, k = n + 1 := ⟨k - 1, by omega⟩
  rw [← newt_hor gfld, lag_newt gfld xs ys n hd]
set_option maxRecDepth 100000 in
set_option maxHeartbeats 2000000 in
theorem ref_RowOf (xs ys : Nat → GF) (k n : Nat) (ao bo : Option Addr) (cap cap2 : Nat) (w : World) (hk1 : 1 ≤ k) (hk : k ≤ 256) (hn : n ≤ 256) (hdist : Hid (∀ i j, i < k → j < k → i ≠ j → xs i ≠ xs j)) (hx : Hid (Reads w ao (rowF k (gfV xs)))) (hy : Hid (Reads w bo (rowF k (gfV ys)))) :
    Calls Try.prog 63 #[.slice ao k cap, .slice bo k cap2, .int .i64 n] w (RowOfPost xs ys k n w) := by
  go_enter Try.func63, Try.ntmps63
  go_wp2_with fail
  refine (ref_Steps xs ys k ao bo cap cap2 w hk1 hk hx hy).mono ?_
  rintro e w1 ⟨g, cp, rfl, hO, hb1⟩
  have HO := Lib.hid hO
  have HB1 := Lib.hid hb1
  clear hO hb1
  go_wp2_with fail
  go_loopw [8, 14] (fun vo vx wr => ∃ x : Nat, vx = .int .i64 x ∧ x ≤ n ∧ Hid (wr.ownsRow w.heap.size 5 1 vo x (rowF x (gfV fun j => lag xs ys k (gf j)))) ∧ Hid (Own wr w.heap.size 5 g k cp (gfV fun j => dd xs ys j j)) ∧ Hid (∀ r, vo.ownBlock = some r → r ≠ g) ∧ Hid (Below w.heap.size w wr)) (fun _ vx _ => n - (intOf vx).toNat)
  case atStart => exact ⟨0, rfl, by omega, World.ownsRow_nil _ _ _ _, HO, fun r h => (by cases h), HB1⟩
  case round =>
    obtain ⟨x, rfl, hxn, hrow, hO, hap, hb⟩ := hrel
    by_cases hx1 : x < n
    · have hx2 : x < 256 := by omega
      have e1 := wrap_u8 x hx2
      obtain ⟨y, hy2⟩ : ∃ y, (horN xs (fun j => dd xs ys j j) (gf x) 0 k).val = y := ⟨_, rfl⟩
      have C := Lib.hid (fun W hx hd => ref_Through xs (fun j => dd xs ys j j) x k ao (some ⟨g, 0, none⟩) cap cp W hx2 hk hx hd)
      rw [hy2] at C
      have hv : Hid (Value.int .u8 (y : Int) = gfV (fun j => lag xs ys k (gf j)) x) := by
        show _ = _
        unfold gfV
        rw [← hy2, hor_lag xs ys k hk1 hdist.out]
      have hX := Lib.hid (hx.out.below hb.out)
      have hRO := Lib.hid hO.out.reads
      clear hy2
      go_wp2_with fail
      refine (C.out _ hX.out hRO).mono ?_
      rintro e w' ⟨rfl, q, rfl⟩
      have hrow2 := Lib.hid (own_below hrow.out (below_dr wr.heap.size wr q))
      have hO2 := Lib.hid (hO.out.drewN q)
      have hb2 := Lib.hid (below_drewN hb.out q)
      obtain ⟨wq, hwq⟩ : ∃ wq, wr.drewN q = wq := ⟨_, rfl⟩
      rw [hwq] at hrow2 hO2 hb2 ⊢
      clear hwq
      go_wp2_with (at_builtin; go_must (refine app_one2 rfl (.tmp 17) (.tmp 23) _ rfl w.heap.size 5 _ 1 1 Try.underlying73 u8Info u8 x (rowF x (gfV fun j => lag xs ys k (gf j))) (by rfl) hrow2.out [.int .u8 (y : Int)] (by rfl) rfl (by intro u hu; simp at hu; subst hu; rfl) (by unfold maxLen; omega) (by omega) hb2.out.size ?_); intro v2 w2 hown2 hgr2 hb3 hat2)
      have hrow3 : Hid (w2.ownsRow w.heap.size 5 1 v2 (x + 1) (rowF (x + 1) (gfV fun j => lag xs ys k (gf j)))) := by
        show World.ownsRow _ _ _ _ _ _ _
        rw [rowF_succ, ← hv.out]; exact hown2
      have hO3 : Hid (Own w2 w.heap.size 5 g k cp (gfV fun j => dd xs ys j j)) := World.ownsRow.kept (World.ownsRow.alloc hO2.out _) hgr2 (by
        right
        intro h
        exact hap.out g h.symm rfl)
      have hap3 : Hid (∀ r, v2.ownBlock = some r → r ≠ g) := by
        intro r hr
        rcases hat2 with h | h
        · exact hap.out r (by rw [← h]; exact hr)
        · rw [h] at hr; injection hr with hr; have := hO2.out.lt; omega
      have hb4 := Lib.hid (hb2.out.trans hb3)
      clear hown2 hgr2 hat2 hb3
      go_roundw
      case rel => exact ⟨x + 1, by go_num, by omega, hrow3, hO3, hap3, hb4⟩
      case measure => simp [intOf]; omega
    · have hfin : Hid (RowOfPost xs ys k n w (.returned u8) wr) := by
        have : x = n := by omega
        exact ⟨u8, rfl, by rw [← this]; exact hrow.out, hb.out⟩
      go_wp2_with fail
      go_ret
      exact hfin.out
end Go.Proofs.Ytioecklnijhjgaa
namespace Go.Proofs.Ytioecklnijhjgaa

/-- The places below n that have something, in order. -/
def pl (H : Nat → Bool) (n : Nat) : List Nat := (List.range n).filter H
theorem pl_succ (H : Nat → Bool) (n : Nat) : pl H (n + 1) = if H n then pl H n ++ [n] else pl H n := by
  unfold pl
  rw [List.range_succ, List.filter_append]
  by_cases h : H n
  · rw [if_pos h]; simp [h]
  · rw [if_neg h]; simp [h]
theorem pl_len (H : Nat → Bool) (n : Nat) : (pl H n).length ≤ n := by
  have := List.length_filter_le H (List.range n); unfold pl; simp at this ⊢; exact this
theorem mem_pl {H : Nat → Bool} {n j : Nat} : j ∈ pl H n ↔ j < n ∧ H j = true := by simp [pl]
theorem pl_nodup (H : Nat → Bool) (n : Nat) : (pl H n).Nodup := by rw [List.nodup_iff_pairwise_ne]; exact List.Pairwise.filter _ (List.nodup_iff_pairwise_ne.1 List.nodup_range)
/-- From behind: those of the last s places below n, the last one first. -/
def pd (H : Nat → Bool) (n s : Nat) : List Nat := ((List.range' (n - s) s).filter H).reverse
theorem pd_zero (H : Nat → Bool) (n : Nat) : pd H n 0 = [] := rfl
theorem pd_succ (H : Nat → Bool) {n s : Nat} (h : s < n) : pd H n (s + 1) = if H (n - 1 - s) then pd H n s ++ [n - 1 - s] else pd H n s := by
  unfold pd
  have e : List.range' (n - (s + 1)) (s + 1) = (n - 1 - s) :: List.range' (n - s) s := by
    rw [List.range'_succ, show n - (s + 1) = n - 1 - s by omega, show n - 1 - s + 1 = n - s by omega]
  rw [e, List.filter_cons]
  by_cases h : H (n - 1 - s)
  · rw [if_pos h, if_pos h, List.reverse_cons]
  · rw [if_neg h, if_neg h]
theorem pd_all (H : Nat → Bool) (n : Nat) : pd H n n = (pl H n).reverse := by
  unfold pd pl; rw [Nat.sub_self, List.range_eq_range']
theorem pd_len (H : Nat → Bool) (n s : Nat) : (pd H n s).length ≤ s := by
  have := List.length_filter_le H (List.range' (n - s) s); unfold pd; simp at this ⊢; exact this
theorem pd_mem {H : Nat → Bool} {n s j : Nat} (hs : s ≤ n) (h : j ∈ pd H n s) : j < n ∧ H j = true := by
  unfold pd at h
  rw [List.mem_reverse, List.mem_filter, List.mem_range'_1] at h
  exact ⟨by omega, h.2⟩
theorem nodup_rev {l : List Nat} (h : l.Nodup) : l.reverse.Nodup := by
  rw [List.nodup_iff_pairwise_ne] at h ⊢
  rw [List.pairwise_reverse]
  exact h.imp fun h => h.symm
/-- Points at the places of a list. -/
def atP (l : List Nat) (j : Nat) : GF := gf (l.getD j 0)
def byP (B : Nat → GF) (l : List Nat) (j : Nat) : GF := B (l.getD j 0)
theorem getD_mem {l : List Nat} {j : Nat} (h : j < l.length) : l.getD j 0 ∈ l := by
  rw [List.getD_eq_getElem?_getD, List.getElem?_eq_getElem h]; exact List.getElem_mem h
theorem atP_ne {l : List Nat} (hn : l.Nodup) (hl : ∀ a ∈ l, a < 256) : ∀ i j, i < l.length → j < l.length → i ≠ j → atP l i ≠ atP l j := by
  intro i j hi hj hij he
  unfold atP at he
  have h1 := gf_inj (hl _ (getD_mem hi)) (hl _ (getD_mem hj)) he
  rw [List.getD_eq_getElem?_getD, List.getD_eq_getElem?_getD, List.getElem?_eq_getElem hi, List.getElem?_eq_getElem hj] at h1
  simp only [Option.getD_some] at h1
  rw [List.nodup_iff_pairwise_ne, List.pairwise_iff_getElem] at hn
  rcases Nat.lt_or_ge i j with h3 | h3
  · exact hn i j hi hj h3 h1
  · exact hn j i hj hi (by omega) h1.symm
/-- The row through the first k of some places. -/
def rowP (B : Nat → GF) (l : List Nat) (k : Nat) (x : GF) : GF := lag (atP l) (byP B l) k x
theorem rowP_same {B : Nat → GF} {l m : List Nat} {k : Nat} (hk : k ≤ m.length) (hn : m.Nodup) (hm : ∀ a ∈ m, a < 256) (h : ∀ a ∈ m, rowP B l k (gf a) = B a) (x : GF) : rowP B m k x = rowP B l k x :=
  lag_uniq gfld (lag_poly gfld _ _ k) _ _ (fun i j hi hj hij => atP_ne hn hm i j (by omega) (by omega) hij) (fun j hj => h _ (getD_mem (by omega))) x
/-- All that are there fit. -/
def Fit (H : Nat → Bool) (B : Nat → GF) (l : List Nat) (k n : Nat) : Prop := ∀ a, a < n → H a = true → rowP B l k (gf a) = B a
theorem fit_iff {H : Nat → Bool} {B : Nat → GF} {k n : Nat} (hn : n ≤ 256) (hk : k ≤ (pl H n).length) :
    (Fit H B (pl H n) k n ↔ Fit H B (pd H n n) k n) ∧ (Fit H B (pl H n) k n → ∀ x, rowP B (pd H n n) k x = rowP B (pl H n) k x) := by
  have m1 : ∀ a ∈ pl H n, a < 256 := fun a ha => by have := (mem_pl.1 ha).1; omega
  have m2 : ∀ a ∈ pd H n n, a < 256 := fun a ha => by rw [pd_all, List.mem_reverse] at ha; exact m1 a ha
  have n2 : (pd H n n).Nodup := by rw [pd_all]; exact nodup_rev (pl_nodup H n)
  have k2 : k ≤ (pd H n n).length := by rw [pd_all, List.length_reverse]; exact hk
  have a1 : Fit H B (pl H n) k n → ∀ x, rowP B (pd H n n) k x = rowP B (pl H n) k x := fun h x =>
    rowP_same k2 n2 m2 (fun a ha => by rw [pd_all, List.mem_reverse, mem_pl] at ha; exact h a ha.1 ha.2) x
  have a2 : Fit H B (pd H n n) k n → ∀ x, rowP B (pl H n) k x = rowP B (pd H n n) k x := fun h x =>
    rowP_same hk (pl_nodup H n) m1 (fun a ha => by rw [mem_pl] at ha; exact h a ha.1 ha.2) x
  exact ⟨⟨fun h a ha hb => by rw [a1 h]; exact h a ha hb, fun h a ha hb => by rw [a2 h]; exact h a ha hb⟩, a1⟩
/-- The first k of a list grow with it till they are k. -/
theorem take_grow (l : List Nat) (k a : Nat) : (l ++ [a]).take k = if l.length < k then l.take k ++ [a] else l.take k := by
  split
  · rename_i h
    rw [List.take_of_length_le (by simp; omega), List.take_of_length_le (by omega)]
  · rename_i h
    rw [List.take_append_of_le_length (by omega)]
theorem getD_take {l : List Nat} {k j : Nat} (h : j < k) : (l.take k).getD j 0 = l.getD j 0 := by
  rw [List.getD_eq_getElem?_getD, List.getD_eq_getElem?_getD, List.getElem?_take_of_lt h]
end Go.Proofs.Ytioecklnijhjgaa
