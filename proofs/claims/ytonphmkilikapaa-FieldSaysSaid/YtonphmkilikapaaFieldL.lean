/- FieldSays: for arbitrary bytes the functions of package field answer what the document says. Conditions: none. -/
import Derived.Test.YtonphmkilikapaaRows
import Derived.Test.YtonphmkilikapaaRefField
namespace Go.Proofs.Ytonphmkilikapaa
open Go.RowKit

set_option maxRecDepth 100000 in
set_option maxHeartbeats 2000000 in
theorem fieldSays_nz (a b : Nat) (n : Int) (w : World) (ha : a < 256) (hb : b < 256) (h0 : a ≠ 0) (hn2 : n ≤ 9223372036854775807) :
    Calls Try.prog 5 #[.int .u8 a, .int .u8 b, .int .i64 n] w fun e w' => e = .returned (.bool true) ∧ Below w.heap.size w w' := by
  have z : ((a : Int) == 0) = false := by simp; omega
  obtain ⟨hl, hs, _⟩ := glog_spec ha h0
  have hs2 : (((gpow 2 (glog a) : Nat) : Int) == (a : Int)) = true := by rw [hs]; simp
  have m1 : (((gmul a b : Nat) : Int) != ((gmul a b : Nat) : Int)) = false := by simp
  have m3 : (((ginv a : Nat) : Int) == ((ginv a : Nat) : Int)) = true := by simp
  clear hs
  by_cases hn : n < 0
  · go_enter Try.func5, Try.ntmps5
    go_wp2_with (first | (go_at_call 23; refine (field_Pow_bad _ _ _ hn).mono ?_; rintro e w' ⟨rfl, rfl⟩) | (go_at_call 24; refine (field_Inv a _ ha h0).mono ?_; rintro e w' ⟨rfl, rfl⟩) | (go_at_call 25; refine (field_Log a _ ha h0).mono ?_; rintro e w' ⟨rfl, rfl⟩) | (go_at_call 26; refine (field_Mul a b _ ha hb).mono ?_; rintro e w' ⟨rfl, rfl⟩) | (go_at_call 27; refine (ref_Times a b _ ha hb).mono ?_; rintro e w' ⟨rfl, n1, rfl⟩) | (go_at_call 29; refine (ref_Undo a _ ha).mono ?_; rintro e w' ⟨rfl, n2, rfl⟩) | (go_at_call 28; refine (ref_Power 2 (glog a) _ (by omega) (by omega)).mono ?_; rintro e w' ⟨rfl, n3, rfl⟩))
    go_ret
    exact ⟨by first | exact ret_bool hs2 | rfl, (by repeat (first | exact Below.refl _ _ | apply below_drewN | (refine Below.alloc ?_ (by simp) _)))⟩
  · obtain ⟨k, rfl⟩ := Int.eq_ofNat_of_zero_le (show 0 ≤ n by omega)
    have m2 : (((gpow a k : Nat) : Int) != ((gpow a k : Nat) : Int)) = false := by simp
    go_enter Try.func5, Try.ntmps5
    go_wp2_with (first | (go_at_call 23; refine (field_Pow a k _ ha (by omega)).mono ?_; rintro e w' ⟨rfl, rfl⟩) | (go_at_call 24; refine (field_Inv a _ ha h0).mono ?_; rintro e w' ⟨rfl, rfl⟩) | (go_at_call 25; refine (field_Log a _ ha h0).mono ?_; rintro e w' ⟨rfl, rfl⟩) | (go_at_call 26; refine (field_Mul a b _ ha hb).mono ?_; rintro e w' ⟨rfl, rfl⟩) | (go_at_call 27; refine (ref_Times a b _ ha hb).mono ?_; rintro e w' ⟨rfl, n1, rfl⟩))
    refine (ref_Power a k _ ha (by omega)).mono ?_; rintro e w' ⟨rfl, n4, rfl⟩
    go_wp2_with (first | (go_at_call 29; refine (ref_Undo a _ ha).mono ?_; rintro e w' ⟨rfl, n2, rfl⟩))
    refine (ref_Power 2 (glog a) _ (by omega) (by omega)).mono ?_; rintro e w' ⟨rfl, n3, rfl⟩
    go_wp2_with fail
    go_ret
    exact ⟨by first | exact ret_bool hs2 | rfl, (by repeat (first | exact Below.refl _ _ | apply below_drewN | (refine Below.alloc ?_ (by simp) _)))⟩

set_option maxRecDepth 100000 in
set_option maxHeartbeats 2000000 in
theorem fieldSays_z (b : Nat) (n : Int) (w : World) (hb : b < 256) (hn2 : n ≤ 9223372036854775807) :
    Calls Try.prog 5 #[.int .u8 0, .int .u8 b, .int .i64 n] w fun e w' => e = .returned (.bool true) ∧ Below w.heap.size w w' := by
  have m1 : (((gmul 0 b : Nat) : Int) != ((gmul 0 b : Nat) : Int)) = false := by simp
  have cM := Lib.hid (fun W => field_Mul 0 b W (by omega) hb)
  have cT := Lib.hid (fun W => ref_Times 0 b W (by omega) hb)
  by_cases hn : n < 0
  · go_enter Try.func5, Try.ntmps5
    go_wp2_with (first | (go_at_call 23; refine (field_Pow_bad _ _ _ hn).mono ?_; rintro e w' ⟨rfl, rfl⟩) | (go_at_call 24; refine (field_Inv_zero _).mono ?_; rintro e w' ⟨rfl, rfl⟩) | (go_at_call 25; refine (field_Log_zero _).mono ?_; rintro e w' ⟨rfl, rfl⟩) | (go_at_call 26; refine (cM.out _).mono ?_; rintro e w' ⟨rfl, rfl⟩) | (go_at_call 27; refine (cT.out _).mono ?_; rintro e w' ⟨rfl, n1, rfl⟩))
    go_ret
    exact ⟨rfl, (by repeat (first | exact Below.refl _ _ | apply below_drewN | (refine Below.alloc ?_ (by simp) _)))⟩
  · obtain ⟨k, rfl⟩ := Int.eq_ofNat_of_zero_le (show 0 ≤ n by omega)
    have m2 : (((gpow 0 k : Nat) : Int) != ((gpow 0 k : Nat) : Int)) = false := by simp
    have cP := Lib.hid (fun W => field_Pow 0 k W (by omega) (by omega))
    have cR := Lib.hid (fun W => ref_Power 0 k W (by omega) (by omega))
    go_enter Try.func5, Try.ntmps5
    go_wp2_with (first | (go_at_call 23; refine (cP.out _).mono ?_; rintro e w' ⟨rfl, rfl⟩) | (go_at_call 24; refine (field_Inv_zero _).mono ?_; rintro e w' ⟨rfl, rfl⟩) | (go_at_call 25; refine (field_Log_zero _).mono ?_; rintro e w' ⟨rfl, rfl⟩) | (go_at_call 26; refine (cM.out _).mono ?_; rintro e w' ⟨rfl, rfl⟩) | (go_at_call 27; refine (cT.out _).mono ?_; rintro e w' ⟨rfl, n1, rfl⟩) | (go_at_call 28; refine (cR.out _).mono ?_; rintro e w' ⟨rfl, n2, rfl⟩))
    go_ret
    exact ⟨rfl, (by repeat (first | exact Below.refl _ _ | apply below_drewN | (refine Below.alloc ?_ (by simp) _)))⟩
theorem fieldSays_walk (a b n : Int) (w : World) (wa : (Lit.int .u8 a).wf = true) (wb : (Lit.int .u8 b).wf = true) (wn : (Lit.int .i64 n).wf = true) :
    Calls Try.prog 5 #[.int .u8 a, .int .u8 b, .int .i64 n] w fun e w' => e = .returned (.bool true) ∧ Below w.heap.size w w' := by
  have ha : 0 ≤ a ∧ a ≤ 255 := by simpa [Lit.wf, IntKind.min, IntKind.max, IntKind.signed, IntKind.bits] using wa
  have hb : 0 ≤ b ∧ b ≤ 255 := by simpa [Lit.wf, IntKind.min, IntKind.max, IntKind.signed, IntKind.bits] using wb
  have hn : -9223372036854775808 ≤ n ∧ n ≤ 9223372036854775807 := by simpa [Lit.wf, IntKind.min, IntKind.max, IntKind.signed, IntKind.bits] using wn
  obtain ⟨x, rfl⟩ := Int.eq_ofNat_of_zero_le ha.1
  obtain ⟨y, rfl⟩ := Int.eq_ofNat_of_zero_le hb.1
  by_cases h0 : x = 0
  · subst h0; exact fieldSays_z y n w (by omega) hn.2
  · exact fieldSays_nz x y n w (by omega) (by omega) h0 hn.2
end Go.Proofs.Ytonphmkilikapaa
