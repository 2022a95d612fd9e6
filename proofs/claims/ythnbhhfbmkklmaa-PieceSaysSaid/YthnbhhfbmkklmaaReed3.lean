/- Contracts of the reference's Through and RowOf. -/
import Derived.Test.YthnbhhfbmkklmaaRows
import Derived.Test.YthnbhhfbmkklmaaReed
import Derived.Test.YthnbhhfbmkklmaaRow2
namespace Go.Proofs.Ythnbhhfbmkklmaa
open Go.RowKit

set_option maxRecDepth 100000 in
set_option maxHeartbeats 2000000 in
theorem ref_Through (xs d : Nat → GF) (x k : Nat) (ao bo : Option Addr) (cap cap2 : Nat) (w : World) (hx1 : x < 256) (hk : k ≤ 256) (hx : Hid (Reads w ao (rowF k (gfV xs)))) (hd : Hid (Reads w bo (rowF k (gfV d)))) :
    Calls Try.prog 102 #[.slice ao k cap, .slice bo k cap2, .int .u8 x] w fun e w' => e = .returned (.int .u8 ((horN xs d (gf x) 0 k).val : Nat)) ∧ ∃ n, w' = w.drewN n := by
  go_enter Try.func102, Try.ntmps102
  go_wp2_with fail
  go_loopw [7, 8] (fun vo vi wr => ∃ (c o : Nat), vi = .int .i64 ((c : Int) - 1) ∧ c ≤ k ∧ vo = .int .u8 o ∧ o < 256 ∧ Hid (o = (horN xs d (gf x) c (k - c)).val) ∧ ∃ n, wr = w.drewN n) (fun _ vi _ => (intOf vi + 1).toNat)
  case atStart => exact ⟨k, 0, rfl, by omega, rfl, by omega, by show _ = _; rw [Nat.sub_self]; rfl, 0, rfl⟩
  case round =>
    obtain ⟨c, o, rfl, hck, rfl, ho, hoe, q, rfl⟩ := hrel
    by_cases hc0 : c = 0
    · subst hc0
      have hR : Hid (o = (horN xs d (gf x) 0 k).val) := by have := hoe.out; rwa [Nat.sub_zero] at this
      go_wp2_with fail
      go_ret
      exact ⟨by rw [← hR.out]; rfl, _, rfl⟩
    · obtain ⟨I, hI⟩ : ∃ I, c = I + 1 := ⟨c - 1, by omega⟩
      have hci : (c : Int) - 1 = (I : Int) := by omega
      have hIk : I < k := by omega
      obtain ⟨b1, o1, rfl, c1⟩ := hx.out I _ (rowF_get (gfV xs) hIk)
      obtain ⟨b2, o2, rfl, c2⟩ := hd.out I _ (rowF_get (gfV d) hIk)
      unfold gfV at c1 c2
      obtain ⟨p, hp⟩ : ∃ p, (xs I).val = p := ⟨_, rfl⟩
      obtain ⟨q2, hq⟩ : ∃ q2, (d I).val = q2 := ⟨_, rfl⟩
      have p1 : p < 256 := by rw [← hp]; exact GF.lt _
      have q1 : q2 < 256 := by rw [← hq]; exact GF.lt _
      rw [hp] at c1
      rw [hq] at c2
      obtain ⟨xp, hxp⟩ : ∃ xp : Nat, x ^^^ p = xp := ⟨_, rfl⟩
      have xp1 : xp < 256 := by rw [← hxp]; exact xor_lt256 hx1 p1
      have e1 : bits .xor .u8 (x : Int) (p : Int) = (xp : Int) := by rw [u8_xor_nat x p hx1 p1, hxp]
      obtain ⟨r, hr⟩ : ∃ r, gmul o xp = r := ⟨_, rfl⟩
      have r1 : r < 256 := by rw [← hr]; exact gmul_lt ho
      obtain ⟨o2', ho2⟩ : ∃ o2 : Nat, r ^^^ q2 = o2 := ⟨_, rfl⟩
      have o21 : o2' < 256 := by rw [← ho2]; exact xor_lt256 r1 q1
      have e2 : bits .xor .u8 (r : Int) (q2 : Int) = (o2' : Int) := by rw [u8_xor_nat r q2 r1 q1, ho2]
      have hnew : Hid (o2' = (horN xs d (gf x) I (k - I)).val) := by
        show _ = _
        rw [show k - I = (k - (I + 1)) + 1 by omega]
        simp only [horN]
        rw [GF.add_val, GF.mul_val, GF.sub_val, gf_val hx1, hp, hq, hxp, ← hI, ← hoe.out, hr, ho2]
      have C := Lib.hid (ref_Times o xp · ho xp1)
      rw [hr] at C
      have i0 : (0 : Int) ≤ I := by omega
      have i1 : (I : Int) < k := by omega
      have HI := Lib.hid hI
      have hlt : Hid (I < c) := by show _ < _; omega
      clear hp hq hxp hr ho2 hI
      go_wp2_with fail
      go_quiet ((go_at_call 58; (first | exact quiet_at C.out | exact quiet_on C.out)))
      go_wp2_with fail
      go_roundw
      case rel => exact ⟨I, o2', rfl, by omega, rfl, o21, hnew, by first | exact dr2 _ _ _ | exact ⟨_, rfl⟩⟩
      case measure => have := hlt.out; simp [intOf]; omega
end Go.Proofs.Ythnbhhfbmkklmaa
