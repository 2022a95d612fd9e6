/- The small functions of package slices that the laws use, at their instances. -/
import Derived.Test.YtmeffbooabionaaRows
import Derived.Test.YtmeffbooabionaaBase
import Derived.Test.YtmeffbooabionaaMem
set_option linter.unusedVariables false
set_option linter.unusedSimpArgs false
namespace Go.Proofs.Ytmeffbooabionaa
open Go.RowKit

/-- Where the first of some values stands that a test lets by; -1 if there is none. -/
def idxI (p : Int → Bool) (zs : List Int) : Int := match zs.findIdx? p with | some i => (i : Int) | none => -1
theorem idxI_none {p : Int → Bool} {zs : List Int} (h : ∀ x ∈ zs, p x = false) : idxI p zs = -1 := by
  unfold idxI
  rw [List.findIdx?_eq_none_iff.2 (by simpa using h)]
theorem idxI_some {p : Int → Bool} {zs : List Int} {k : Nat} {x : Int} (hk : zs[k]? = some x) (hx : p x = true) (h : ∀ j y, j < k → zs[j]? = some y → p y = false) : idxI p zs = k := by
  have : zs.findIdx? p = some k := by
    rw [List.findIdx?_eq_some_iff_getElem]
    obtain ⟨hl, he⟩ := List.getElem?_eq_some_iff.1 hk
    refine ⟨hl, by rw [he]; exact hx, fun j hj => ?_⟩
    have := h j _ hj (List.getElem?_eq_getElem (by omega))
    simp [this]
  unfold idxI
  rw [this]

set_option maxRecDepth 20000 in
set_option maxHeartbeats 400000 in
theorem indexFunc_int (fn : FuncId) (hfn : ∀ (x : Value) (W : World), (callFunc fn #[x]).run Try.prog W = .ok (.enter fn #[x]) W) (p : Int → Bool) (zs : List Int) (ao : Option Addr) (cap : Nat) (w : World) (hl : zs.length ≤ 9223372036854775807) (hR : Hid (Reads w ao (zs.map (Value.int .i64))))
    (hf : Hid (∀ x ∈ zs, ∀ n, Calls Try.prog fn #[.int .i64 x] (w.drewN n) fun e w' => e = .returned (.bool (p x)) ∧ ∃ m, w' = (w.drewN n).drewN m)) :
    Calls Try.prog 76 #[.slice ao zs.length cap, .func (.func fn) #[] #[]] w fun e w' => e = .returned (.int .i64 (idxI p zs)) ∧ ∃ n, w' = w.drewN n := by
  obtain ⟨len, hlen⟩ : ∃ n, zs.length = n := ⟨_, rfl⟩
  rw [hlen] at hl ⊢
  have HL := Lib.hid hlen
  clear hlen
  go_enter Try.func76, Try.ntmps76
  go_wp2_with fail
  go_loopw [8] (fun vi wr => ∃ k : Nat, vi = .int .i64 k ∧ k ≤ len ∧ Hid (∀ j y, j < k → zs[j]? = some y → p y = false) ∧ ∃ n, wr = w.drewN n) (fun vi _ => len - (intOf vi).toNat)
  case atStart => exact ⟨0, rfl, by omega, by intro j y hj; omega, 0, rfl⟩
  case round =>
    obtain ⟨k, rfl, hk, hno, n, rfl⟩ := hrel
    by_cases hkl : k < len
    · obtain ⟨x, hx⟩ : ∃ x, zs[k]? = some x := ⟨zs[k]'(by rw [HL.out]; exact hkl), List.getElem?_eq_getElem _⟩
      obtain ⟨b, o, rfl, hc⟩ := hR.out k (.int .i64 x) (by simp [hx])
      have HX := Lib.hid hx
      clear hx
      have hcall := Lib.hid (hf.out x (List.mem_of_getElem? HX.out))
      cases hp : p x with
      | true =>
        have HP := Lib.hid hp
        clear hp
        go_wp2_with fail
        refine (hcall.out n).mono ?_
        rw [HP.out]
        rintro e w' ⟨rfl, m, rfl⟩
        go_wp2
        go_ret
        exact ⟨ret_int (idxI_some HX.out HP.out hno.out).symm, _, rfl⟩
      | false =>
        have HP := Lib.hid hp
        clear hp
        go_wp2_with fail
        refine (hcall.out n).mono ?_
        rw [HP.out]
        rintro e w' ⟨rfl, m, rfl⟩
        go_wp2
        go_roundw
        case rel => exact ⟨k + 1, by go_num, by omega, by
          intro j y hj hy
          by_cases he : j = k
          · subst he; rw [HX.out] at hy; cases hy; exact HP.out
          · exact hno.out j y (by omega) hy, _, rfl⟩
        case measure => simp [intOf]; omega
    · obtain rfl : k = len := by omega
      go_wp2
      go_ret
      refine ⟨ret_int (idxI_none fun x hx => ?_).symm, _, rfl⟩
      obtain ⟨j, hj⟩ := List.getElem?_of_mem hx
      have := (List.getElem?_eq_some_iff.1 hj).1
      exact hno.out j x (by have := HL.out; omega) hj
theorem idxI_nonneg (p : Int → Bool) (zs : List Int) : decide (0 ≤ idxI p zs) = zs.any p := by
  unfold idxI
  cases h : zs.findIdx? p with
  | none =>
    have h2 := List.findIdx?_eq_none_iff.1 h
    have : zs.any p = false := by simpa using h2
    rw [this]; rfl
  | some i =>
    have h2 := List.findIdx?_eq_some_iff_getElem.1 h
    obtain ⟨hl, hp, _⟩ := h2
    have : zs.any p = true := List.any_eq_true.2 ⟨_, List.getElem_mem hl, hp⟩
    rw [this]; simp

set_option maxHeartbeats 400000 in
theorem containsFunc_int (fn : FuncId) (hfn : ∀ (x : Value) (W : World), (callFunc fn #[x]).run Try.prog W = .ok (.enter fn #[x]) W) (p : Int → Bool) (zs : List Int) (ao : Option Addr) (cap : Nat) (w : World) (hl : zs.length ≤ 9223372036854775807) (hR : Hid (Reads w ao (zs.map (Value.int .i64))))
    (hf : Hid (∀ x ∈ zs, ∀ n, Calls Try.prog fn #[.int .i64 x] (w.drewN n) fun e w' => e = .returned (.bool (p x)) ∧ ∃ m, w' = (w.drewN n).drewN m)) :
    Calls Try.prog 51 #[.slice ao zs.length cap, .func (.func fn) #[] #[]] w fun e w' => e = .returned (.bool (zs.any p)) ∧ ∃ n, w' = w.drewN n := by
  go_enter Try.func51, Try.ntmps51
  go_wp2_with (go_at_call 76; refine (indexFunc_int fn hfn p zs ao cap w hl hR hf).mono ?_; rintro e w' ⟨rfl, n, rfl⟩)
  go_ret
  exact ⟨ret_bool (idxI_nonneg p zs), _, rfl⟩
end Go.Proofs.Ytmeffbooabionaa
