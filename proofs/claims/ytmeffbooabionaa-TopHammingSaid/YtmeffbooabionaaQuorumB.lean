/- Contracts of math/bits.OnesCount16 and of the reference's Ones. -/
import Derived.Test.YtmeffbooabionaaRows
import Derived.Test.YtmeffbooabionaaBase
import Derived.Test.YtmeffbooabionaaHmM34
import Derived.Lib.BitFns
set_option linter.unusedVariables false
set_option linter.unusedSimpArgs false
namespace Go.Proofs.Ytmeffbooabionaa
open Go.RowKit

theorem pop8_ones (x : Nat) (h : x < 256) : Lib.pop8 (x : Int) = (onesF x 8 : Nat) := by
  have : ∀ n : Fin 256, Lib.pop8 (n.val : Int) = (onesF n.val 8 : Nat) := by decide +kernel
  exact this ⟨x, h⟩
theorem ofInt_u16 (a : Nat) (ha : a < 65536) : (BitVec.ofInt 16 (a : Int)).toNat = a := by
  rw [BitVec.ofInt_natCast, BitVec.toNat_ofNat]; exact Nat.mod_eq_of_lt (by omega)
theorem wrap_u16 (a : Nat) (h : a < 65536) : IntKind.u16.wrap (a : Int) = (a : Int) := by
  simp only [IntKind.wrap, IntKind.signed, IntKind.bits]
  simp
  omega
theorem u16_and_nat (a b : Nat) (ha : a < 65536) (hb : b < 65536) : bits .and .u16 (a : Int) (b : Int) = ((a &&& b : Nat) : Int) := by
  have hx : a &&& b < 2 ^ 16 := Nat.and_lt_two_pow _ (by omega)
  show IntKind.u16.wrap ((BitVec.ofInt 16 (a : Int) &&& BitVec.ofInt 16 (b : Int)).toNat : Int) = _
  rw [BitVec.toNat_and, ofInt_u16 a ha, ofInt_u16 b hb]
  exact wrap_u16 _ (by omega)
theorem u16_or_nat (a b : Nat) (ha : a < 65536) (hb : b < 65536) : bits .or .u16 (a : Int) (b : Int) = ((a ||| b : Nat) : Int) := by
  have hx : a ||| b < 2 ^ 16 := Nat.or_lt_two_pow (by omega) (by omega)
  show IntKind.u16.wrap ((BitVec.ofInt 16 (a : Int) ||| BitVec.ofInt 16 (b : Int)).toNat : Int) = _
  rw [BitVec.toNat_or, ofInt_u16 a ha, ofInt_u16 b hb]
  exact wrap_u16 _ (by omega)
set_option maxRecDepth 100000 in
set_option maxHeartbeats 2000000 in
theorem bits_OnesCount16 (a : Nat) (w : World) (ha : a < 65536) :
    Calls Try.prog 36 #[.int .u16 a] w fun e w' => e = .returned (.int .i64 (ones16 a : Nat)) ∧ ∃ n, w' = w.drewN n := by
  have e1 : bits .and .u16 (a : Int) 255 = ((a % 256 : Nat) : Int) := by
    have h := u16_and_nat a 255 ha (by omega)
    rw [show ((255 : Nat) : Int) = 255 from rfl] at h
    rw [h, Nat.and_two_pow_sub_one_eq_mod a 8]
  obtain ⟨lo, hlo⟩ : ∃ x, a % 256 = x := ⟨_, rfl⟩
  obtain ⟨hi, hhi⟩ : ∃ x, a / 256 = x := ⟨_, rfl⟩
  have l1 : lo < 256 := by omega
  have l2 : hi < 256 := by omega
  rw [hlo] at e1
  have p1 := pop8_ones lo l1
  have p2 := pop8_ones hi l2
  have b1 := onesF_le lo 8
  have b2 := onesF_le hi 8
  rw [ones16_split, hlo, hhi]
  obtain ⟨u, hu⟩ : ∃ x, onesF lo 8 = x := ⟨_, rfl⟩
  obtain ⟨v, hv⟩ : ∃ x, onesF hi 8 = x := ⟨_, rfl⟩
  rw [hu] at p1 b1 ⊢
  rw [hv] at p2 b2 ⊢
  have e2 : (a : Int) / 256 = (hi : Int) := by omega
  have HL := Lib.hid hlo
  have hl0 : (0 : Int) ≤ lo := by omega
  have hl1 : (lo : Int) ≤ 255 := by omega
  have hh0 : (0 : Int) ≤ hi := by omega
  have hh1 : (hi : Int) ≤ 255 := by omega
  have hst := Try.underlying9
  have wvu : IntKind.u8.wrap ((v : Int) + u) = (v : Int) + u := by
    simp only [IntKind.wrap, IntKind.signed, IntKind.bits]
    simp
    omega
  have wvi : IntKind.i64.wrap ((v : Int) + u) = (v : Int) + u := IntWalk.i64_in _ (by omega)
  clear hu hv hlo
  go_enter Try.func36, Try.ntmps36
  go_wp2_with fail
  simp only [List.append_eq, List.cons_append, List.nil_append, Lib.fold_pop8tab]
  go_quiet (fail)
  go_wp2_with fail
  go_ret
  exact ⟨ret_int (by push_cast; rfl), _, rfl⟩
end Go.Proofs.Ytmeffbooabionaa
