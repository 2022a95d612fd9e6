/- IndexFunc and ContainsFunc of package slices at ints, where the closure has caught one variable. -/
import Derived.Test.YtmeffbooabionaaSlices
set_option linter.unusedVariables false
set_option linter.unusedSimpArgs false
namespace Go.Proofs.Ytmeffbooabionaa
open Go.RowKit

set_option maxRecDepth 20000 in
set_option maxHeartbeats 400000 in
theorem indexFunc_cap (fn : FuncId) (c : Value) (hfn : ∀ (x : Value) (W : World), (callFunc fn #[x, c]).run Try.prog W = .ok (.enter fn #[x, c]) W) (p : Int → Bool) (zs : List Int) (ao : Option Addr) (cap : Nat) (w : World) (hl : zs.length ≤ 9223372036854775807) (hR : Hid (Reads w ao (zs.map (Value.int .i64))))
    (hf : Hid (∀ x ∈ zs, ∀ n, Calls Try.prog fn #[.int .i64 x, c] (w.drewN n) fun e w' => e = .returned (.bool (p x)) ∧ ∃ m, w' = (w.drewN n).drewN m)) :
    Calls Try.prog 76 #[.slice ao zs.length cap, .func (.func fn) #[] #[c]] w fun e w' => e = .returned (.int .i64 (idxI p zs)) ∧ ∃ n, w' = w.drewN n := by
  obtain ⟨len, hlen⟩ : ∃ n, zs.length = n := ⟨_, rfl⟩
  rw [hlen] at hl ⊢
  have HL := Lib.hid hlen
  clear hlen
  go_enter Try.func76, Try.ntmps76
  go_wp2_with fail
  go_loopw [8] (fun vi wr => ∃ k : Nat, vi = .int .i64 k ∧ k ≤ len ∧ Hid (∀ j y, j < k → zs[j]? = some y → p y = false) ∧ ∃ n, wr = w.drewN n) (fun vi _ => len - (intOf vi).toNat)
  case atStart => exact ⟨0, rfl, by omega, by intro j y hj; omega, 0, rfl⟩
  case round =>
    obtain ⟨k, rfl, hk, hno, n, rfl⟩ := hrel
    by_cases hkl : k < len
    · obtain ⟨x, hx⟩ : ∃ x, zs[k]? = some x := ⟨zs[k]'(by rw [HL.out]; exact hkl), List.getElem?_eq_getElem _⟩
      obtain ⟨b, o, rfl, hc⟩ := hR.out k (.int .i64 x) (by simp [hx])
      have HX := Lib.hid hx
      clear hx
      have hcall := Lib.hid (hf.out x (List.mem_of_getElem? HX.out))
      cases hp : p x with
      | true =>
        have HP := Lib.hid hp
        clear hp
        go_wp2_with fail
        refine (hcall.out n).mono ?_
        rw [HP.out]
        rintro e w' ⟨rfl, m, rfl⟩
        go_wp2
        go_ret
        exact ⟨ret_int (idxI_some HX.out HP.out hno.out).symm, _, rfl⟩
      | false =>
        have HP := Lib.hid hp
        clear hp
        go_wp2_with fail
        refine (hcall.out n).mono ?_
        rw [HP.out]
        rintro e w' ⟨rfl, m, rfl⟩
        go_wp2
        go_roundw
        case rel => exact ⟨k + 1, by go_num, by omega, by
          intro j y hj hy
          by_cases he : j = k
          · subst he; rw [HX.out] at hy; cases hy; exact HP.out
          · exact hno.out j y (by omega) hy, _, rfl⟩
        case measure => simp [intOf]; omega
    · obtain rfl : k = len := by omega
      go_wp2
      go_ret
      refine ⟨ret_int (idxI_none fun x hx => ?_).symm, _, rfl⟩
      obtain ⟨j, hj⟩ := List.getElem?_of_mem hx
      have := (List.getElem?_eq_some_iff.1 hj).1
      exact hno.out j x (by have := HL.out; omega) hj
set_option maxHeartbeats 400000 in
theorem containsFunc_cap (fn : FuncId) (c : Value) (hfn : ∀ (x : Value) (W : World), (callFunc fn #[x, c]).run Try.prog W = .ok (.enter fn #[x, c]) W) (p : Int → Bool) (zs : List Int) (ao : Option Addr) (cap : Nat) (w : World) (hl : zs.length ≤ 9223372036854775807) (hR : Hid (Reads w ao (zs.map (Value.int .i64))))
    (hf : Hid (∀ x ∈ zs, ∀ n, Calls Try.prog fn #[.int .i64 x, c] (w.drewN n) fun e w' => e = .returned (.bool (p x)) ∧ ∃ m, w' = (w.drewN n).drewN m)) :
    Calls Try.prog 51 #[.slice ao zs.length cap, .func (.func fn) #[] #[c]] w fun e w' => e = .returned (.bool (zs.any p)) ∧ ∃ n, w' = w.drewN n := by
  go_enter Try.func51, Try.ntmps51
  go_wp2_with (go_at_call 76; refine (indexFunc_cap fn c hfn p zs ao cap w hl hR hf).mono ?_; rintro e w' ⟨rfl, n, rfl⟩)
  go_ret
  exact ⟨ret_bool (idxI_nonneg p zs), _, rfl⟩
end Go.Proofs.Ytmeffbooabionaa
