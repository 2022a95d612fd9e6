/- slices.Equal at the instances that the laws use. -/
import Derived.Test.YtmeffbooabionaaRows
import Derived.Test.YtmeffbooabionaaBase
import Derived.Test.YtmeffbooabionaaSlices
namespace Go.Proofs.Ytmeffbooabionaa
open Go.RowKit
set_option maxRecDepth 20000 in
set_option maxHeartbeats 1000000 in
/-- slices.Equal[[]int,int]. -/
theorem equal_int (xs ys : List Int) (ao bo : Option Addr) (ca cb : Nat) (w : World) (hlx : xs.length ≤ 9223372036854775807) (hly : ys.length ≤ 9223372036854775807)
    (hX : Hid (Reads w ao (xs.map (Value.int .i64)))) (hY : Hid (Reads w bo (ys.map (Value.int .i64)))) :
    Calls Try.prog 20 #[.slice ao xs.length ca, .slice bo ys.length cb] w fun e w' => e = .returned (.bool (decide (xs = ys))) ∧ ∃ n, w' = w.drewN n := by
  obtain ⟨lx, hlenx⟩ : ∃ n, xs.length = n := ⟨_, rfl⟩
  obtain ⟨ly, hleny⟩ : ∃ n, ys.length = n := ⟨_, rfl⟩
  rw [hlenx] at hlx ⊢
  rw [hleny] at hly ⊢
  have HLX := Lib.hid hlenx
  have HLY := Lib.hid hleny
  clear hlenx hleny
  by_cases hne : lx = ly
  · subst hne
    go_enter Try.func20, Try.ntmps20
    go_wp2_with fail
    go_loopw [13] (fun vi wr => ∃ k : Nat, vi = .int .i64 k ∧ k ≤ lx ∧ Hid (∀ j, j < k → xs[j]? = ys[j]?) ∧ ∃ n, wr = w.drewN n) (fun vi _ => lx - (intOf vi).toNat)
    case atStart => exact ⟨0, rfl, by omega, by intro j hj; omega, 0, rfl⟩
    case round =>
      obtain ⟨k, rfl, hk, hsame, n, rfl⟩ := hrel
      by_cases hkl : k < lx
      · obtain ⟨x, hx⟩ : ∃ x, xs[k]? = some x := ⟨xs[k]'(by rw [HLX.out]; exact hkl), List.getElem?_eq_getElem _⟩
        obtain ⟨y, hy⟩ : ∃ y, ys[k]? = some y := ⟨ys[k]'(by rw [HLY.out]; exact hkl), List.getElem?_eq_getElem _⟩
        obtain ⟨b, o, rfl, hc⟩ := hX.out k (.int .i64 x) (by simp [hx])
        obtain ⟨b2, o2, rfl, hc2⟩ := hY.out k (.int .i64 y) (by simp [hy])
        have HX := Lib.hid hx
        have HY := Lib.hid hy
        clear hx hy
        have i0 : (0 : Int) ≤ (k : Int) := by omega
        have i1 : (k : Int) < (lx : Int) := by omega
        go_wp2_with fail
        go_quiet (fail)
        by_cases hxy : x = y
        · have hb : (x != y) = false := by simp [hxy]
          have HXY := Lib.hid hxy
          clear hxy
          go_wp2
          go_roundw
          case rel => exact ⟨k + 1, by go_num, by omega, by
            intro j hj
            by_cases he : j = k
            · subst he; rw [HX.out, HY.out, HXY.out]
            · exact hsame.out j (by omega), by first | exact ⟨_, rfl⟩ | exact dr2 _ _ _⟩
          case measure => simp [intOf]; omega
        · have hb : (x != y) = true := by simp [hxy]
          have HXY := Lib.hid hxy
          clear hxy
          go_wp2
          go_ret
          refine ⟨ret_bool ?_, by first | exact ⟨_, rfl⟩ | exact dr2 _ _ _⟩
          refine (decide_eq_false fun h => HXY.out ?_).symm
          have h2 := HX.out
          rw [h, HY.out] at h2
          injection h2 with h2
          exact h2.symm
      · obtain rfl : k = lx := by omega
        go_wp2
        go_ret
        refine ⟨ret_bool (decide_eq_true ?_).symm, _, rfl⟩
        apply List.ext_getElem?
        intro j
        by_cases hj : j < k
        · exact hsame.out j hj
        · rw [List.getElem?_eq_none (by rw [HLX.out]; omega), List.getElem?_eq_none (by rw [HLY.out]; omega)]
  · have hn : ((lx : Int) != (ly : Int)) = true := by simp; omega
    have hn2 : decide (lx = ly) = false := by simp [hne]
    go_enter Try.func20, Try.ntmps20
    go_wp2_with fail
    go_ret
    refine ⟨ret_bool (decide_eq_false fun h => hne ?_).symm, 0, rfl⟩
    rw [← HLX.out, ← HLY.out, h]

end Go.Proofs.Ytmeffbooabionaa
