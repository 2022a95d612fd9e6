/- DivideLifts: for arbitrary lists Lift and Lower answer what the document says. Conditions: none. -/
import Derived.Test.YtonphmkilikapaaRows
import Derived.Test.YtonphmkilikapaaDivide2
import Derived.Test.YtonphmkilikapaaDivisors
namespace Go.Proofs.Ytonphmkilikapaa
open Go.RowKit

theorem IntsIn.below {k : IntKind} {w w' : World} {ao : Option Addr} {n : Nat} {zs : List Int} (h : IntsIn k w ao n zs) (hb : Below w.heap.size w w') : IntsIn k w' ao n zs := ⟨h.1, h.2.1, h.2.2.1, h.2.2.2.below hb⟩
theorem IntsIn.drew {k : IntKind} {w : World} {ao : Option Addr} {n : Nat} {zs : List Int} (h : IntsIn k w ao n zs) (m : Nat) : IntsIn k (w.drewN m) ao n zs := ⟨h.1, h.2.1, h.2.2.1, h.2.2.2.drew m⟩
set_option maxRecDepth 100000 in
set_option maxHeartbeats 2000000 in
theorem divideLifts_bad (zs : List Int) (ao : Option Addr) (cap : Nat) (w : World) (h : IntsIn .i64 w ao zs.length zs) (hz : liftE zs ≠ 0) :
    Calls Try.prog 11 #[.slice ao zs.length cap] w fun e w' => e = .returned (.bool true) ∧ Below w.heap.size w w' := by
  have hl := h.2.1
  have C1 := Lib.hid (divide_Lift_bad zs ao cap w h hz)
  have C2 := Lib.hid (fun n => divide_Lower_bad zs ao cap (w.drewN n) (h.drew n) hz)
  have C3 := Lib.hid (fun n => big_any zs ao cap (w.drewN n) hl (h.2.2.2.drew n))
  unfold liftE at C1 C2 hz
  by_cases h1 : 60 < zs.length
  · have d : decide ((60 : Int) < zs.length) = true := by simp; omega
    rw [if_pos h1] at C1 C2
    clear h hz
    go_enter Try.func11, Try.ntmps11
    go_wp2_with (first | (go_at_call 53; refine (C1.out).mono ?_; rintro e w' ⟨rfl, n1, rfl⟩) | (go_at_call 54; refine (C2.out _).mono ?_; rintro e w' ⟨rfl, n2, rfl⟩))
    go_ret
    exact ⟨rfl, (by repeat (first | exact Below.refl _ _ | apply below_drewN | (refine Below.alloc ?_ (by simp) _)))⟩
  · have d : decide ((60 : Int) < zs.length) = false := by simp; omega
    rw [if_neg h1] at C1 C2 hz
    cases hb : zs.any bigB with
    | true =>
      rw [hb, if_pos rfl] at C1 C2
      rw [hb] at C3
      clear h hz hb
      go_enter Try.func11, Try.ntmps11
      go_wp2_with (first | (go_at_call 53; refine (C1.out).mono ?_; rintro e w' ⟨rfl, n1, rfl⟩) | (go_at_call 54; refine (C2.out _).mono ?_; rintro e w' ⟨rfl, n2, rfl⟩) | (go_at_call 44; refine (C3.out _).mono ?_; rintro e w' ⟨rfl, n3, rfl⟩))
      go_ret
      exact ⟨rfl, (by repeat (first | exact Below.refl _ _ | apply below_drewN | (refine Below.alloc ?_ (by simp) _)))⟩
    | false => rw [hb] at hz; simp at hz

theorem sumL_bd (h : Nat → Int) (B : Int) (hB : ∀ x, -B ≤ h x ∧ h x ≤ B) (l : List Nat) : -(B * l.length) ≤ sumL h l ∧ sumL h l ≤ B * l.length := by
  induction l with
  | nil => simp [sumL_nil]
  | cons a l ih =>
    rw [sumL_cons]
    simp only [List.length_cons]
    have h3 := hB a
    have e : B * ((l.length + 1 : Nat) : Int) = B * l.length + B := by push_cast; rw [Int.mul_add, Int.mul_one]
    rw [e]; omega
theorem divs_len (n : Nat) : (divs n).length ≤ n + 1 := by unfold divs; exact Nat.le_trans (List.length_filter_le _ _) (by simp)
theorem sumL_take (h : Nat → Int) (l : List Nat) (k a : Nat) (ha : l[k]? = some a) : sumL h (l.take (k + 1)) = sumL h (l.take k) + h a := by
  rw [take_snoc2 l k a ha, sumL_append, sumL_cons, sumL_nil, Int.add_zero]
noncomputable def downF (f : Nat → Int) (d : Nat) : Int := sd (fun e => f e * mu (d / e)) d
theorem downF_bd {f : Nat → Int} (hf : ∀ d, -1000000000 ≤ f d ∧ f d ≤ 1000000000) {d : Nat} (hd : d ≤ 60) : -61000000000 ≤ downF f d ∧ downF f d ≤ 61000000000 := by
  have h1 := sumL_bd (fun e => f e * mu (d / e)) 1000000000 (fun x => by
    have a := hf x
    have b := mu_bd (d / x)
    have : mu (d / x) = -1 ∨ mu (d / x) = 0 ∨ mu (d / x) = 1 := by omega
    rcases this with h | h | h <;> rw [h] <;> omega) (divs d)
  have h2 := divs_len d
  unfold downF sd
  omega
set_option maxRecDepth 100000 in
set_option maxHeartbeats 4000000 in
theorem divideLifts_ok (zs : List Int) (ao : Option Addr) (cap : Nat) (w : World) (h : IntsIn .i64 w ao zs.length zs) (hz : liftE zs = 0) :
    Calls Try.prog 11 #[.slice ao zs.length cap] w fun e w' => e = .returned (.bool true) ∧ Below w.heap.size w w' := by
  have hl := h.2.1
  have HH := Lib.hid h
  have C1 := Lib.hid (divide_Lift zs ao cap w h hz)
  have HF := Lib.hid (fOf_bd hz)
  have HZ := Lib.hid hz
  have hN : zs.length ≤ 60 := by unfold liftE at hz; split at hz <;> omega
  have hb : Hid (zs.any bigB = false) := by
    show _ = _
    unfold liftE at hz
    rw [if_neg (by omega)] at hz
    split at hz
    · omega
    · rename_i h2; simpa using h2
  have d : decide ((60 : Int) < zs.length) = false := by simp; omega
  clear hz h
  go_enter Try.func11, Try.ntmps11
  go_wp2_with fail
  refine (C1.out).mono ?_
  rintro e w1 ⟨g1, c1, rfl, hO1, hb1⟩
  have HO1 := Lib.hid hO1
  have HB1 := Lib.hid hb1
  clear hO1 hb1
  go_wp2_with fail
  refine (divide_Lower zs ao cap w1 (HH.out.below HB1.out) HZ.out).mono ?_
  rintro e w2 ⟨g2, c2, rfl, hO2, hb2⟩
  have HO2 : Hid (Own w2 w.heap.size 3 g2 zs.length c2 (fun j => .int .i64 (downF (fOf zs) (j + 1)))) := own_mono hO2 HB1.out.size
  have HO12 := Lib.hid (HO1.out.below hb2)
  have HB2 := Lib.hid (HB1.out.trans (Below.mono hb2 HB1.out.size))
  clear hO2 hb2 HO1
  go_wp2_with (go_at_call 44; refine (big_any zs ao cap _ hl (HH.out.below HB2.out).2.2.2).mono ?_; rw [hb.out]; rintro e w' ⟨rfl, n3, rfl⟩)
  have HO3 := Lib.hid (HO12.out.drewN n3)
  have HO4 := Lib.hid (HO2.out.drewN n3)
  have HB3 := Lib.hid (below_drewN HB2.out n3)
  obtain ⟨w3, hw3⟩ : ∃ w3, w2.drewN n3 = w3 := ⟨_, rfl⟩
  rw [hw3] at HO3 HO4 HB3 ⊢
  obtain ⟨f, hf⟩ : ∃ f, fOf zs = f := ⟨_, rfl⟩
  obtain ⟨N, hNe⟩ : ∃ N, zs.length = N := ⟨_, rfl⟩
  have hR : Hid (Reads w ao (rowF N fun j => .int .i64 (f (j + 1)))) := by
    have := HH.out.2.2.2
    rw [map_rowF zs (Value.int .i64) 0, hNe] at this
    show Reads _ _ _
    rw [← hf]; exact this
  rw [hf] at HF HO3 HO4
  rw [hNe] at hN HO3 HO4 d ⊢
  clear hf hNe hw3 HH HO12 HO2 C1 HZ hb hl
  go_loopw [68] (fun vk wr => ∃ k : Nat, vk = .int .i64 k ∧ k ≤ N ∧ Hid (Own wr w.heap.size 3 g1 N c1 fun j => .int .i64 (sd (fun d => f d * 1) (j + 1))) ∧ Hid (Own wr w.heap.size 3 g2 N c2 fun j => .int .i64 (downF f (j + 1))) ∧ Hid (Below w.heap.size w wr)) (fun vk _ => N - (intOf vk).toNat)
  case atStart => exact ⟨0, rfl, by omega, HO3, HO4, HB3⟩
  case round =>
    obtain ⟨k, rfl, hk, oU, oD, hb⟩ := hrel
    by_cases hkN : k < N
    · have C := Lib.hid (ref_DivisorsOf (k + 1) wr (by omega) (by omega))
      obtain ⟨n, hn⟩ : ∃ n, k + 1 = n := ⟨_, rfl⟩
      have hkn : (k : Int) + 1 = (n : Int) := by omega
      rw [hn] at C
      have hn1 : 1 ≤ n := by omega
      have hnN : n ≤ N := by omega
      have HN := Lib.hid hn
      clear hn
      go_wp2_with fail
      refine (C.out).mono ?_
      rintro e w4 ⟨v, rfl, hown, hb4⟩
      obtain ⟨ro, rc, rfl, hRR, hnone, hmx⟩ := own_reads hown
      have HRR := Lib.hid hRR
      have oU4 := Lib.hid (oU.out.below hb4)
      have oD4 := Lib.hid (oD.out.below hb4)
      have hb5 := Lib.hid (hb.out.trans (Below.mono hb4 hb.out.size))
      obtain ⟨len, hlen⟩ : ∃ len, (divs n).length = len := ⟨_, rfl⟩
      have hlen60 : len ≤ 61 := by have := divs_len n; omega
      rw [hlen] at hmx ⊢
      have HL := Lib.hid hlen
      have hRf := Lib.hid (hR.out.below hb5.out)
      clear hown hb4 hRR hnone hmx hlen
      go_wp2_with fail
      go_loop [9, 10, 75] (fun va vb vj => ∃ (j : Nat) (a b : Int), vj = .int .i64 j ∧ j ≤ len ∧ va = .int .i64 a ∧ vb = .int .i64 b ∧ Hid (a = sumL (fun d => f d * 1) ((divs n).take j)) ∧ Hid (b = sumL (downF f) ((divs n).take j)) ∧ -1000000000 * (j : Int) ≤ a ∧ a ≤ 1000000000 * (j : Int) ∧ -61000000000 * (j : Int) ≤ b ∧ b ≤ 61000000000 * (j : Int)) (fun _ _ vj => len - (intOf vj).toNat)
      case atStart => exact ⟨0, 0, 0, rfl, by omega, rfl, rfl, rfl, rfl, by omega, by omega, by omega, by omega⟩
      case round =>
        obtain ⟨j, a, b, rfl, hj, rfl, rfl, ha, hbb, a1, a2, b1, b2⟩ := hrel
        by_cases hjl : j < len
        · obtain ⟨d, hd⟩ : ∃ d, (divs n)[j]? = some d := ⟨(divs n)[j]'(by rw [HL.out]; exact hjl), List.getElem?_eq_getElem _⟩
          obtain ⟨b3, o3, rfl, x3⟩ := HRR.out j (.int .i64 (d : Int)) (by simp [natInts, hd])
          have hdm := (mem_divs hn1).1 (List.mem_of_getElem? hd)
          have hd1 := hdm.1
          have hdn := Nat.le_of_dvd hn1 hdm.2
          obtain ⟨t, ht⟩ : ∃ t, d - 1 = t := ⟨_, rfl⟩
          have hdt : (d : Int) - 1 = (t : Int) := by omega
          obtain ⟨b4, o4, rfl, x4⟩ := hRf.out t _ (rowF_get (fun j => .int .i64 (f (j + 1))) (show t < N by omega))
          have x5 := oD4.out.cell (show t < N by omega)
          have fb := HF.out d
          have db := downF_bd HF.out (show d ≤ 60 by omega)
          obtain ⟨y, hy⟩ : ∃ y, f d = y := ⟨_, rfl⟩
          obtain ⟨z, hz⟩ : ∃ z, downF f d = z := ⟨_, rfl⟩
          rw [show t + 1 = d by omega] at x4 x5
          rw [hy] at x4 fb
          rw [hz] at x5 db
          have t0 : (0 : Int) ≤ t := by omega
          have t1 : (t : Int) < N := by omega
          have ha2 : Hid (a + y = sumL (fun d => f d * 1) ((divs n).take (j + 1))) := by
            show _ = _
            rw [sumL_take _ _ _ _ hd, ← ha.out, Int.mul_one, hy]
          have hb2 : Hid (b + z = sumL (downF f) ((divs n).take (j + 1))) := by
            show _ = _
            rw [sumL_take _ _ _ _ hd, ← hbb.out, hz]
          clear hd hdm ht hy hz
          go_wp2_with fail
          go_round
          case rel => exact ⟨j + 1, a + y, b + z, by go_num, by omega, rfl, rfl, ha2, hb2, by push_cast; omega, by push_cast; omega, by push_cast; omega, by push_cast; omega⟩
          case measure => simp [intOf]; omega
        · have x6 := oU4.out.cell hkN
          obtain ⟨b7, o7, rfl, x7⟩ := hRf.out k _ (rowF_get (fun j => .int .i64 (f (j + 1))) hkN)
          rw [HN.out] at x6 x7
          have hjn : j = (divs n).length := by rw [HL.out]; omega
          have e1 : a = sd (fun d => f d * 1) n := by
            rw [ha.out, hjn, List.take_length]; rfl
          have e2 : b = f n := by
            rw [hbb.out, hjn, List.take_length]
            exact moebius_inv f hn1
          rw [← e1] at x6
          rw [← e2] at x7
          have n1 : (a != a) = false := by simp
          have n2 : (b != b) = false := by simp
          clear e1 e2 hjn
          go_wp2_with fail
          go_roundw
          case rel => exact ⟨k + 1, by go_num, by omega, oU4, oD4, hb5⟩
          case measure => simp [intOf]; omega
    · go_wp2_with fail
      go_ret
      exact ⟨rfl, hb.out⟩
theorem divideLifts_walk (ao : Option Addr) (len cap : Nat) (zs : List Int) (w : World) (h : IntsIn .i64 w ao len zs ∧ CapOk ao len cap) :
    Calls Try.prog 11 #[.slice ao len cap] w fun e w' => e = .returned (.bool true) ∧ Below w.heap.size w w' := by
  obtain rfl := h.1.1
  by_cases hz : liftE zs = 0
  · exact divideLifts_ok zs ao cap w h.1 hz
  · exact divideLifts_bad zs ao cap w h.1 hz
end Go.Proofs.Ytonphmkilikapaa
