/- Contracts of package rest (Of, Pow) and of the reference's rest and powers. -/
import Derived.Test.YtioecklnijhjgaaRows
import Derived.Test.YtioecklnijhjgaaHlM0
import Derived.Test.YtioecklnijhjgaaHlM45
import Derived.Test.YtioecklnijhjgaaEuclid
import Derived.Test.YtioecklnijhjgaaHlM31
namespace Go.Proofs.Ytioecklnijhjgaa
open Go.RowKit

set_option maxHeartbeats 400000 in
theorem ref_Rest (a m : Int) (w : World) (ha : -9223372036854775808 ≤ a) (ha' : a ≤ 9223372036854775807) (hm : 1 ≤ m) (hm' : m ≤ 1000000000) :
    Calls Try.prog 31 #[.int .i64 a, .int .i64 m] w fun e w' => e = .returned (.int .i64 (a % m)) ∧ ∃ n, w' = w.drewN n := by
  have hmz : ¬ m = 0 := by omega
  have hz : (m == 0) = false := by simp; omega
  have l1 := Int.lt_tmod_of_pos a (b := m) (by omega)
  have l2 := Int.tmod_lt_of_pos a (b := m) (by omega)
  by_cases h : a.tmod m < 0
  · have hR : Hid (a.tmod m + m = a % m) := by
      show _ = _
      have := mod_up a m hm
      rw [Int.emod_eq_of_lt (by omega) (by omega)] at this
      exact this
    go_enter Try.func31, Try.ntmps31
    go_wp2
    go_ret
    exact ⟨ret_int hR.out, 0, rfl⟩
  · have hR : Hid (a.tmod m = a % m) := by
      show _ = _
      have := mod_up a m hm
      rw [Int.add_emod_right, Int.emod_eq_of_lt (by omega) (by omega)] at this
      exact this
    go_enter Try.func31, Try.ntmps31
    go_wp2
    go_ret
    exact ⟨ret_int hR.out, 0, rfl⟩
end Go.Proofs.Ytioecklnijhjgaa
namespace Go.Proofs.Ytioecklnijhjgaa
open Go.RowKit

set_option maxRecDepth 20000 in
set_option maxHeartbeats 400000 in
theorem indexFunc_err (fn : FuncId) (hfn : ∀ (x : Value) (W : World), (callFunc fn #[x]).run Try.prog W = .ok (.enter fn #[x]) W) (p : Int → Bool) (zs : List Int) (ao : Option Addr) (cap : Nat) (w : World) (hl : zs.length ≤ 9223372036854775807) (hR : Hid (Reads w ao (zs.map (Value.int .i64))))
    (hf : Hid (∀ x ∈ zs, ∀ n, Calls Try.prog fn #[.int .i64 x] (w.drewN n) fun e w' => e = .returned (.bool (p x)) ∧ ∃ m, w' = (w.drewN n).drewN m)) :
    Calls Try.prog 55 #[.slice ao zs.length cap, .func (.func fn) #[] #[]] w fun e w' => e = .returned (.int .i64 (idxI p zs)) ∧ ∃ n, w' = w.drewN n := by
  obtain ⟨len, hlen⟩ : ∃ n, zs.length = n := ⟨_, rfl⟩
  rw [hlen] at hl ⊢
  have HL := Lib.hid hlen
  clear hlen
  go_enter Try.func55, Try.ntmps55
  go_wp2_with fail
  go_loopw [8] (fun vi wr => ∃ k : Nat, vi = .int .i64 k ∧ k ≤ len ∧ Hid (∀ j y, j < k → zs[j]? = some y → p y = false) ∧ ∃ n, wr = w.drewN n) (fun vi _ => len - (intOf vi).toNat)
  case atStart => exact ⟨0, rfl, by omega, by intro j y hj; omega, 0, rfl⟩
  case round =>
    obtain ⟨k, rfl, hk, hno, n, rfl⟩ := hrel
    by_cases hkl : k < len
    · obtain ⟨x, hx⟩ : ∃ x, zs[k]? = some x := ⟨zs[k]'(by rw [HL.out]; exact hkl), List.getElem?_eq_getElem _⟩
      obtain ⟨b, o, rfl, hc⟩ := hR.out k (.int .i64 x) (by simp [hx])
      have HX := Lib.hid hx
      clear hx
      have hcall := Lib.hid (hf.out x (List.mem_of_getElem? HX.out))
      cases hp : p x with
      | true =>
        have HP := Lib.hid hp
        clear hp
        go_wp2_with fail
        refine (hcall.out n).mono ?_
        rw [HP.out]
        rintro e w' ⟨rfl, m, rfl⟩
        go_wp2
        go_ret
        exact ⟨ret_int (idxI_some HX.out HP.out hno.out).symm, _, rfl⟩
      | false =>
        have HP := Lib.hid hp
        clear hp
        go_wp2_with fail
        refine (hcall.out n).mono ?_
        rw [HP.out]
        rintro e w' ⟨rfl, m, rfl⟩
        go_wp2
        go_roundw
        case rel => exact ⟨k + 1, by go_num, by omega, by
          intro j y hj hy
          by_cases he : j = k
          · subst he; rw [HX.out] at hy; cases hy; exact HP.out
          · exact hno.out j y (by omega) hy, _, rfl⟩
        case measure => simp [intOf]; omega
    · obtain rfl : k = len := by omega
      go_wp2
      go_ret
      refine ⟨ret_int (idxI_none fun x hx => ?_).symm, _, rfl⟩
      obtain ⟨j, hj⟩ := List.getElem?_of_mem hx
      have := (List.getElem?_eq_some_iff.1 hj).1
      exact hno.out j x (by have := HL.out; omega) hj
set_option maxHeartbeats 400000 in
theorem containsFunc_err (fn : FuncId) (hfn : ∀ (x : Value) (W : World), (callFunc fn #[x]).run Try.prog W = .ok (.enter fn #[x]) W) (p : Int → Bool) (zs : List Int) (ao : Option Addr) (cap : Nat) (w : World) (hl : zs.length ≤ 9223372036854775807) (hR : Hid (Reads w ao (zs.map (Value.int .i64))))
    (hf : Hid (∀ x ∈ zs, ∀ n, Calls Try.prog fn #[.int .i64 x] (w.drewN n) fun e w' => e = .returned (.bool (p x)) ∧ ∃ m, w' = (w.drewN n).drewN m)) :
    Calls Try.prog 34 #[.slice ao zs.length cap, .func (.func fn) #[] #[]] w fun e w' => e = .returned (.bool (zs.any p)) ∧ ∃ n, w' = w.drewN n := by
  go_enter Try.func34, Try.ntmps34
  go_wp2_with (go_at_call 55; refine (indexFunc_err fn hfn p zs ao cap w hl hR hf).mono ?_; rintro e w' ⟨rfl, n, rfl⟩)
  go_ret
  exact ⟨ret_bool (idxI_nonneg p zs), _, rfl⟩
end Go.Proofs.Ytioecklnijhjgaa
