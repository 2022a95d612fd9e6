/- IndexFunc, ContainsFunc, EqualFunc of package slices at tables of bytes. -/
import Derived.Test.YtgdcmebhopjfaaaTrM7
import Derived.Test.YtgdcmebhopjfaaaTrM11
namespace Go.Proofs.Ytgdcmebhopjfaaa
open Go.RowKit

set_option maxRecDepth 20000 in
set_option maxHeartbeats 400000 in
theorem indexFunc_tab (fn : FuncId) (cs : Array Value) (hfn : ∀ (x : Value) (W : World), (callFunc fn (#[x] ++ cs)).run Try.prog W = .ok (.enter fn (#[x] ++ cs)) W) (p : Hd → Bool) (T : List Hd) (n : Nat) (ao : Option Addr) (cap : Nat) (w : World) (hT : Hid (TabIn w ao n T))
    (hn : n ≤ 9223372036854775807) (hf : Hid (∀ h ∈ T, ∀ n, Calls Try.prog fn (#[h.v] ++ cs) (w.drewN n) fun e w' => e = .returned (.bool (p h)) ∧ ∃ m, w' = (w.drewN n).drewN m)) :
    Calls Try.prog 154 #[.slice ao n cap, .func (.func fn) #[] cs] w fun e w' => e = .returned (.int .i64 (idxA p T)) ∧ ∃ n, w' = w.drewN n := by
  go_enter Try.func154, Try.ntmps154
  go_wp2_with fail
  go_loopw [8] (fun vi wr => ∃ k : Nat, vi = .int .i64 k ∧ k ≤ n ∧ Hid (∀ j y, j < k → T[j]? = some y → p y = false) ∧ ∃ n, wr = w.drewN n) (fun vi _ => n - (intOf vi).toNat)
  case atStart => exact ⟨0, rfl, by omega, by intro j y hj; omega, 0, rfl⟩
  case round =>
    obtain ⟨k, rfl, hk, hno, m, rfl⟩ := hrel
    by_cases hkl : k < n
    · obtain ⟨x, b, o, hx, rfl, hc, _⟩ := hT.out.get hkl
      have HX := Lib.hid hx
      clear hx
      have hcall := Lib.hid (hf.out x (List.mem_of_getElem? HX.out))
      unfold Hd.v at hcall
      cases hp : p x with
      | true =>
        have HP := Lib.hid hp
        clear hp
        go_wp2_with fail
        refine (hcall.out m).mono ?_
        rw [HP.out]
        rintro e w' ⟨rfl, m, rfl⟩
        go_wp2
        go_ret
        exact ⟨ret_int (idxA_some HX.out HP.out hno.out).symm, _, rfl⟩
      | false =>
        have HP := Lib.hid hp
        clear hp
        go_wp2_with fail
        refine (hcall.out m).mono ?_
        rw [HP.out]
        rintro e w' ⟨rfl, m, rfl⟩
        go_wp2
        go_roundw
        case rel => exact ⟨k + 1, by go_num, by omega, by
          intro j y hj hy
          by_cases he : j = k
          · subst he; rw [HX.out] at hy; cases hy; exact HP.out
          · exact hno.out j y (by omega) hy, _, rfl⟩
        case measure => simp [intOf]; omega
    · obtain rfl : k = n := by omega
      go_wp2
      go_ret
      refine ⟨ret_int (idxA_none fun x hx => ?_).symm, _, rfl⟩
      obtain ⟨j, hj⟩ := List.getElem?_of_mem hx
      have := (List.getElem?_eq_some_iff.1 hj).1
      exact hno.out j x (by have := hT.out.len; omega) hj
set_option maxHeartbeats 400000 in
theorem containsFunc_tab (fn : FuncId) (cs : Array Value) (hfn : ∀ (x : Value) (W : World), (callFunc fn (#[x] ++ cs)).run Try.prog W = .ok (.enter fn (#[x] ++ cs)) W) (p : Hd → Bool) (T : List Hd) (n : Nat) (ao : Option Addr) (cap : Nat) (w : World) (hT : Hid (TabIn w ao n T))
    (hn : n ≤ 9223372036854775807) (hf : Hid (∀ h ∈ T, ∀ n, Calls Try.prog fn (#[h.v] ++ cs) (w.drewN n) fun e w' => e = .returned (.bool (p h)) ∧ ∃ m, w' = (w.drewN n).drewN m)) :
    Calls Try.prog 106 #[.slice ao n cap, .func (.func fn) #[] cs] w fun e w' => e = .returned (.bool (T.any p)) ∧ ∃ n, w' = w.drewN n := by
  go_enter Try.func106, Try.ntmps106
  go_wp2_with (go_at_call 154; refine (indexFunc_tab fn cs hfn p T n ao cap w hT hn hf).mono ?_; rintro e w' ⟨rfl, n, rfl⟩)
  go_ret
  exact ⟨ret_bool (idxA_nonneg p T), _, rfl⟩
theorem u8s_ints (l : List Nat) : u8s l = (l.map fun x : Nat => (x : Int)).map (Value.int .u8) := by simp [u8s]
theorem natInt_inj : ∀ {l m : List Nat}, (l.map fun x : Nat => (x : Int)) = (m.map fun x : Nat => (x : Int)) → l = m
  | [], [], _ => rfl
  | [], _ :: _, h => by simp at h
  | _ :: _, [], h => by simp at h
  | x :: l, y :: m, h => by
    simp only [List.map_cons, List.cons.injEq] at h
    rw [natInt_inj h.2, Int.ofNat.inj h.1]
theorem equal_rows (x y : Hd) (w : World) (hx : RowOk w x) (hy : RowOk w y) :
    Calls Try.prog 58 #[x.v, y.v] w fun e w' => e = .returned (.bool (decide (x.Z = y.Z))) ∧ ∃ n, w' = w.drewN n := by
  have h := equal_u8 (x.Z.map fun x : Nat => (x : Int)) (y.Z.map fun x : Nat => (x : Int)) x.A y.A x.C y.C w (by have := hx.cap; have := hx.max; simp; omega) (by have := hy.cap; have := hy.max; simp; omega) (by rw [← u8s_ints]; exact hx.reads) (by rw [← u8s_ints]; exact hy.reads)
  rw [List.length_map, List.length_map] at h
  refine h.mono ?_
  rintro e w' ⟨rfl, hn⟩
  refine ⟨ret_bool ?_, hn⟩
  by_cases he : x.Z = y.Z
  · rw [decide_eq_true he, decide_eq_true (by rw [he])]
  · rw [decide_eq_false he, decide_eq_false fun h => he (natInt_inj h)]
theorem same_u8 (x y : Hd) (w : World) (hx : RowOk w x) (hy : RowOk w y) :
    Calls Try.prog 112 #[x.v, y.v] w fun e w' => e = .returned (.bool (decide (x.Z = y.Z))) ∧ ∃ n, w' = w.drewN n := by
  have C := Lib.hid (equal_rows x y w hx hy)
  unfold Hd.v at C ⊢
  go_enter Try.func112, Try.ntmps112
  go_wp2_with (go_at_call 58; refine C.out.mono ?_; rintro e w' ⟨rfl, n, rfl⟩)
  go_ret
  exact ⟨rfl, _, rfl⟩
/-- The bytes of a table. -/
def zof (T : List Hd) : List (List Nat) := T.map Hd.Z
theorem zof_get {T : List Hd} {i : Nat} {h : Hd} (hi : T[i]? = some h) : (zof T)[i]? = some h.Z := by unfold zof; rw [List.getElem?_map, hi]; rfl
theorem zof_len (T : List Hd) : (zof T).length = T.length := by simp [zof]
set_option maxRecDepth 20000 in
set_option maxHeartbeats 1000000 in
theorem equalFunc_tab (S T : List Hd) (n m : Nat) (ao bo : Option Addr) (ca cb : Nat) (w : World) (hS : Hid (TabIn w ao n S)) (hT : Hid (TabIn w bo m T)) (hn : n ≤ 9223372036854775807) (hm : m ≤ 9223372036854775807) :
    Calls Try.prog 111 #[.slice ao n ca, .slice bo m cb, .func (.func 112) #[] #[]] w fun e w' => e = .returned (.bool (decide (zof S = zof T))) ∧ ∃ n, w' = w.drewN n := by
  by_cases hne : n = m
  · subst hne
    go_enter Try.func111, Try.ntmps111
    go_wp2_with fail
    go_loopw [17] (fun vi wr => ∃ k : Nat, vi = .int .i64 k ∧ k ≤ n ∧ Hid (∀ j, j < k → (zof S)[j]? = (zof T)[j]?) ∧ ∃ n, wr = w.drewN n) (fun vi _ => n - (intOf vi).toNat)
    case atStart => exact ⟨0, rfl, by omega, by intro j hj; omega, 0, rfl⟩
    case round =>
      obtain ⟨k, rfl, hk, hsame, m, rfl⟩ := hrel
      by_cases hkl : k < n
      · obtain ⟨x, b, o, hx, rfl, hc, hrx⟩ := hS.out.get hkl
        obtain ⟨y, b2, o2, hy, rfl, hc2, hry⟩ := hT.out.get hkl
        have HX := Lib.hid (zof_get hx)
        have HY := Lib.hid (zof_get hy)
        have hcall := Lib.hid (same_u8 x y (w.drewN m) (hrx.below (below_dr _ _ _)) (hry.below (below_dr _ _ _)))
        unfold Hd.v at hcall
        clear hx hy hrx hry
        have i0 : (0 : Int) ≤ (k : Int) := by omega
        have i1 : (k : Int) < (n : Int) := by omega
        by_cases hxy : x.Z = y.Z
        · rw [decide_eq_true hxy] at hcall
          have HXY := Lib.hid hxy
          clear hxy
          go_wp2_with (go_at_call 112; refine hcall.out.mono ?_; rintro e w' ⟨rfl, n1, rfl⟩)
          go_roundw
          case rel => exact ⟨k + 1, by go_num, by omega, by
            intro j hj
            by_cases he : j = k
            · subst he; rw [HX.out, HY.out, HXY.out]
            · exact hsame.out j (by omega), by first | exact ⟨_, rfl⟩ | exact dr2 _ _ _⟩
          case measure => simp [intOf]; omega
        · rw [decide_eq_false hxy] at hcall
          have HXY := Lib.hid hxy
          clear hxy
          go_wp2_with (go_at_call 112; refine hcall.out.mono ?_; rintro e w' ⟨rfl, n1, rfl⟩)
          go_ret
          refine ⟨ret_bool ?_, by first | exact ⟨_, rfl⟩ | exact dr2 _ _ _⟩
          refine (decide_eq_false fun h => HXY.out ?_).symm
          have h2 := HX.out
          rw [h, HY.out] at h2
          injection h2 with h2
          exact h2.symm
      · obtain rfl : k = n := by omega
        go_wp2
        go_ret
        refine ⟨ret_bool (decide_eq_true ?_).symm, _, rfl⟩
        apply List.ext_getElem?
        intro j
        by_cases hj : j < k
        · exact hsame.out j hj
        · rw [List.getElem?_eq_none (by rw [zof_len, hS.out.len]; omega), List.getElem?_eq_none (by rw [zof_len, hT.out.len]; omega)]
  · have hn1 : ((n : Int) != (m : Int)) = true := by simp; omega
    have hn2 : decide (n = m) = false := by simp [hne]
    have HNE : Hid (zof S ≠ zof T) := fun h => by
      have h2 := congrArg List.length h
      rw [zof_len, zof_len, hS.out.len, hT.out.len] at h2
      exact hne h2
    go_enter Try.func111, Try.ntmps111
    go_wp2_with fail
    go_ret
    exact ⟨ret_bool (decide_eq_false HNE.out).symm, 0, rfl⟩
theorem sameRows_u8 (S T : List Hd) (n m : Nat) (ao bo : Option Addr) (ca cb : Nat) (w : World) (hS : TabIn w ao n S) (hT : TabIn w bo m T) :
    Calls Try.prog 41 #[.slice ao n ca, .slice bo m cb] w fun e w' => e = .returned (.bool (decide (zof S = zof T))) ∧ ∃ n, w' = w.drewN n := by
  have C := Lib.hid (equalFunc_tab S T n m ao bo ca cb w (Lib.hid hS) (Lib.hid hT) hS.max hT.max)
  clear hS hT
  go_enter Try.func41, Try.ntmps41
  go_wp2_with (go_at_call 111; refine C.out.mono ?_; rintro e w' ⟨rfl, n, rfl⟩)
  go_ret
  exact ⟨rfl, _, rfl⟩
end Go.Proofs.Ytgdcmebhopjfaaa
