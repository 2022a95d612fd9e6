/- Sorting by insertion, in plain words: a row is a function of its places. -/
import Derived.Test.YtgdcmebhopjfaaaTrM6
import Derived.Test.YtgdcmebhopjfaaaRows
import Derived.Test.YtgdcmebhopjfaaaTrM8
import Derived.Test.YtgdcmebhopjfaaaTrM7
import Derived.Lib.Tables
import Derived.BigRegion
namespace Go.Proofs.Ytgdcmebhopjfaaa

/-- The first n places as a list. -/
def rowN (n : Nat) (f : Nat → Nat) : List Nat := (List.range n).map f
theorem rowN_len (n : Nat) (f : Nat → Nat) : (rowN n f).length = n := by simp [rowN]
theorem rowN_get {n : Nat} (f : Nat → Nat) {j : Nat} (h : j < n) : (rowN n f)[j]? = some (f j) := by simp [rowN, h]
theorem rowN_congr {n : Nat} {f g : Nat → Nat} (h : ∀ j, j < n → f j = g j) : rowN n f = rowN n g := List.map_congr_left fun j hj => h j (List.mem_range.1 hj)
/-- Place j + 1 and the one ahead of it change. -/
def swA (f : Nat → Nat) (j : Nat) : Nat → Nat := fun i => if i = j then f (j + 1) else if i = j + 1 then f j else f i
theorem swA_perm {n j : Nat} (f : Nat → Nat) (h : j + 1 < n) : (rowN n (swA f j)).Perm (rowN n f) := by
  obtain ⟨b, rfl⟩ : ∃ b, n = j + 2 + b := ⟨n - (j + 2), by omega⟩
  have split : ∀ g : Nat → Nat, rowN (j + 2 + b) g = (List.range j).map g ++ ([g j, g (j + 1)] ++ (List.range b).map (fun x => g (j + 2 + x))) := by
    intro g
    unfold rowN
    rw [List.range_add, List.map_append, List.range_succ, List.range_succ]
    simp [List.append_assoc, Function.comp_def]
  rw [split, split]
  have h1 : (List.range j).map (swA f j) = (List.range j).map f := List.map_congr_left fun i hi => by
    have := List.mem_range.1 hi
    unfold swA
    rw [if_neg (by omega), if_neg (by omega)]
  have h2 : (List.range b).map (fun x => swA f j (j + 2 + x)) = (List.range b).map (fun x => f (j + 2 + x)) := List.map_congr_left fun i _ => by
    unfold swA
    rw [if_neg (by omega), if_neg (by omega)]
  have h3 : swA f j j = f (j + 1) := by unfold swA; rw [if_pos rfl]
  have h4 : swA f j (j + 1) = f j := by unfold swA; rw [if_neg (by omega), if_pos rfl]
  rw [h1, h2, h3, h4]
  exact List.Perm.append_left _ (List.Perm.append_right _ (List.Perm.swap _ _ _))
/-- The first i + 1 places are in order, but for place j, which is looked at against those behind it alone. -/
def InsO (f : Nat → Nat) (i j : Nat) : Prop := ∀ p q, p < q → q ≤ i → q ≠ j → f p ≤ f q
def SrtN (f : Nat → Nat) (n : Nat) : Prop := ∀ p q, p < q → q < n → f p ≤ f q
theorem SrtN.ins {f : Nat → Nat} {i : Nat} (h : SrtN f i) : InsO f i i := fun p q h1 h2 h3 => h p q h1 (by omega)
theorem InsO.done0 {f : Nat → Nat} {i : Nat} (h : InsO f i 0) : SrtN f (i + 1) := fun p q h1 h2 => h p q h1 (by omega) (by omega)
theorem InsO.done {f : Nat → Nat} {i j : Nat} (h : InsO f i (j + 1)) (hj : f j ≤ f (j + 1)) : SrtN f (i + 1) := by
  intro p q h1 h2
  by_cases hq : q = j + 1
  · subst hq
    by_cases hp : p = j
    · subst hp; exact hj
    · exact Nat.le_trans (h p j (by omega) (by omega) (by omega)) hj
  · exact h p q h1 (by omega) hq
theorem InsO.step {f : Nat → Nat} {i j : Nat} (h : InsO f i (j + 1)) (hi : j + 1 ≤ i) (hj : f (j + 1) < f j) : InsO (swA f j) i j := by
  intro p q h1 h2 h3
  unfold swA
  by_cases hq : q = j + 1
  · subst hq
    rw [if_neg (show ¬ j + 1 = j by omega), if_pos rfl]
    by_cases hp : p = j
    · rw [if_pos hp]; omega
    · rw [if_neg hp, if_neg (by omega)]; exact h p j (by omega) (by omega) (by omega)
  · rw [if_neg h3, if_neg hq]
    by_cases hp : p = j
    · rw [if_pos hp]; exact h (j + 1) q (by omega) h2 hq
    · rw [if_neg hp]
      by_cases hp2 : p = j + 1
      · rw [if_pos hp2]; exact h j q (by omega) h2 hq
      · rw [if_neg hp2]; exact h p q h1 h2 hq
theorem swA_pos (f : Nat → Nat) (j : Nat) : swA f j = fun i => if i = j then f (j + 1) else if i = j + 1 then f j else f i := rfl
end Go.Proofs.Ytgdcmebhopjfaaa
namespace Go.Proofs.Ytgdcmebhopjfaaa
open Go.RowKit

def cellu8 (f : Nat → Nat) (i : Nat) : Value := .int .u8 (f i : Int)
set_option maxRecDepth 100000 in
set_option maxHeartbeats 4000000 in
theorem bits_Len64_smallu8 (x : Nat) (w : World) (hx : x < 256) :
    Calls Try.prog 182 #[.int .u64 x] w fun e w' => (∃ v, e = .returned (.int .i64 v)) ∧ w' = w := by
  have hst := Try.underlying9
  have l0 : (0 : Int) ≤ x := by omega
  have l1 : (x : Int) ≤ 255 := by omega
  have h1 : decide ((4294967296 : Int) ≤ (x : Int)) = false := by simp; omega
  have h2 : decide ((65536 : Int) ≤ (x : Int)) = false := by simp; omega
  have h3 : decide ((256 : Int) ≤ (x : Int)) = false := by simp; omega
  have wx : IntKind.u8.wrap (x : Int) = (x : Int) := by
    simp only [IntKind.wrap, IntKind.signed, IntKind.bits]
    simp
    omega
  go_enter Try.func182, Try.ntmps182
  go_wp2_with fail
  go_ret
  exact ⟨⟨_, rfl⟩, rfl⟩
theorem bits_Len_smallu8 (x : Nat) (w : World) (hx : x < 256) :
    Calls Try.prog 153 #[.int .u64 x] w fun e w' => (∃ v, e = .returned (.int .i64 v)) ∧ w' = w := by
  go_enter Try.func153, Try.ntmps153
  go_wp2_with (go_at_call 182; refine (bits_Len64_smallu8 x _ hx).mono ?_; rintro e w' ⟨⟨v, rfl⟩, rfl⟩)
  go_ret
  exact ⟨⟨_, rfl⟩, rfl⟩
theorem cmp_Less_u8 (a b : Nat) (w : World) :
    Calls Try.prog 189 #[.int .u8 a, .int .u8 b] w fun e w' => e = .returned (.bool (decide (a < b))) ∧ ∃ n, w' = w.drewN n := by
  have ha : ((a : Int) != (a : Int)) = false := by simp
  have hb : ((b : Int) != (b : Int)) = false := by simp
  have hd : decide ((a : Int) < (b : Int)) = decide (a < b) := by simp
  go_enter Try.func189, Try.ntmps189
  go_wp2
  go_ret
  first
    | exact ⟨ret_bool hd, 0, rfl⟩
    | exact ⟨ret_bool (by simp), 0, rfl⟩
set_option maxRecDepth 100000 in
set_option maxHeartbeats 4000000 in
theorem insertion_u8 (n : Nat) (f : Nat → Nat) (base g cap : Nat) (w : World) (hn : n ≤ 1000000) (hO : Own w base 5 g n cap (cellu8 f)) (hb : base ≤ w.heap.size) :
    Calls Try.prog 183 #[.slice (some ⟨g, 0, none⟩) n cap, .int .i64 0, .int .i64 n] w fun e w' =>
      e = .returned (.tuple #[]) ∧ ∃ f', Own w' base 5 g n cap (cellu8 f') ∧ (rowN n f').Perm (rowN n f) ∧ SrtN f' n ∧ Below base w w' := by
  have HB : Hid (base ≤ w.heap.size) := hb
  have hc := hO.caps
  have HO : Hid (Own w base 5 g n cap (cellu8 f)) := hO
  have hc1 : (n : Int) ≤ (cap : Int) := by omega
  have hc2 := hc.1
  have hc3 := hc.2
  clear hO hb hc
  go_enter Try.func183, Try.ntmps183
  go_wp2_with fail
  go_loopw [6] (fun vi wr => ∃ (i : Nat) (h : Nat → Nat), vi = .int .i64 i ∧ 1 ≤ i ∧ (i ≤ n ∨ i = 1) ∧ Hid (Own wr base 5 g n cap (cellu8 h)) ∧ Hid ((rowN n h).Perm (rowN n f)) ∧ Hid (SrtN h i) ∧ Hid (Below base w wr)) (fun vi _ => n - (intOf vi).toNat)
  case atStart => exact ⟨1, f, rfl, by omega, .inr rfl, HO, .refl _, fun p q h1 h2 => by omega, Below.refl _ _⟩
  case round =>
    obtain ⟨i, h, rfl, hi1, hi, hO, hP, hS, hB⟩ := hrel
    by_cases hin : i < n
    · have HI0 : Hid (InsO h i i) := hS.out.ins
      have hii : (i : Int) < (n : Int) := by omega
      clear hS
      go_wp2_with fail
      go_loopw [7] (fun vj wr => ∃ (j : Nat) (h : Nat → Nat), vj = .int .i64 j ∧ j ≤ i ∧ Hid (Own wr base 5 g n cap (cellu8 h)) ∧ Hid ((rowN n h).Perm (rowN n f)) ∧ Hid (InsO h i j) ∧ Hid (Below base w wr)) (fun vj _ => (intOf vj).toNat)
      case atStart => exact ⟨i, h, rfl, Nat.le_refl _, hO, hP, HI0, hB⟩
      case round =>
        clear hO hP HI0 hB
        obtain ⟨j, h, rfl, hj, hO, hP, hI, hB⟩ := hrel
        by_cases hj0 : j = 0
        · subst hj0
          have HS2 : Hid (SrtN h (i + 1)) := hI.out.done0
          go_wp2_with fail
          go_quiet (fail)
          go_wp2_with fail
          go_roundw
          case rel => exact ⟨i + 1, h, by go_num, by omega, .inl (by omega), by exact hO.out.drewN _, hP, HS2, below_drewN hB.out _⟩
          case measure => simp [intOf]; omega
        · obtain ⟨k, rfl⟩ : ∃ k, j = k + 1 := ⟨j - 1, by omega⟩
          obtain ⟨x, hx⟩ : ∃ x, h (k + 1) = x := ⟨_, rfl⟩
          obtain ⟨y, hy⟩ : ∃ y, h k = y := ⟨_, rfl⟩
          have c1 := hO.out.cell (show k + 1 < n by omega)
          have c2 := hO.out.cell (show k < n by omega)
          rw [show cellu8 h (k + 1) = .int .u8 x by unfold cellu8; rw [hx]] at c1
          rw [show cellu8 h k = .int .u8 y by unfold cellu8; rw [hy]] at c2
          have e1 : ((k + 1 : Nat) : Int) - 1 = (k : Int) := by omega
          have e2 : IntKind.i64.wrap (((k + 1 : Nat) : Int) - 1) = (k : Int) := by rw [e1]; exact IntWalk.i64_in _ (by omega)
          obtain ⟨J, hJ⟩ : ∃ J, k + 1 = J := ⟨_, rfl⟩
          rw [hJ] at c1 e2
          have j0 : (0 : Int) < (J : Int) := by omega
          have j00 : (0 : Int) ≤ (J : Int) := by omega
          have d0 : decide ((0 : Int) < (J : Int)) = true := by simp; omega
          have d1 : decide (0 < J) = true := by simp; omega
          have d2 : 0 < J := by omega
          have j1 : (J : Int) < (n : Int) := by omega
          have j2 : (k : Int) < (n : Int) := by omega
          have j3 : (0 : Int) ≤ (k : Int) := by omega
          have f1 := hO.out.frozen J
          have f2 := hO.out.frozen k
          have HJ := Lib.hid hJ
          have HX := Lib.hid hx
          have HY := Lib.hid hy
          have CL := Lib.hid (fun W => cmp_Less_u8 x y W)
          have hJi : J ≤ i := by omega
          rw [hJ]
          by_cases hxy : x < y
          · rw [decide_eq_true hxy] at CL
            have HP2 : Hid ((rowN n (swA h k)).Perm (rowN n f)) := (swA_perm h (by omega)).trans hP.out
            have HI2 : Hid (InsO (swA h k) i k) := InsO.step hI.out (by omega) (by rw [hx, hy]; exact hxy)
            have HXY := Lib.hid hxy
            have hkj : (k : Int) < (J : Int) := by omega
            clear hxy hx hy hJ
            go_wp2_with fail
            go_quiet ((go_at_call 189; (first | (with_reducible exact quiet_on (fun W' => CL.out W')) | (with_reducible exact quiet_at (fun W' => CL.out W')) | exact CL.out _)))
            have hO' := Lib.hid (hO.out.drewN nq)
            have hB' := Lib.hid (below_drewN hB.out nq)
            clear c1 c2 f1 f2
            obtain ⟨wq, hwq⟩ : ∃ wq, wr.drewN nq = wq := ⟨_, rfl⟩
            rw [hwq] at hO' hB' ⊢
            have c1 := hO'.out.cell (show J < n by omega)
            have c2 := hO'.out.cell (show k < n by omega)
            rw [show cellu8 h J = .int .u8 x by unfold cellu8; rw [← HJ.out, HX.out]] at c1
            rw [show cellu8 h k = .int .u8 y by unfold cellu8; rw [HY.out]] at c2
            have f1 := hO'.out.frozen J
            have f2 := hO'.out.frozen k
            have st := hO'.out.store J (.int .u8 y)
            have st2 := st.1.store k (.int .u8 x)
            have HO2 : Hid (Own ((wq.setCell ⟨g, J, none⟩ (.int .u8 y)).setCell ⟨g, k, none⟩ (.int .u8 x)) base 5 g n cap (cellu8 (swA h k))) := Lib.hid (st2.1.congr fun a _ => by
              unfold cellu8 swA
              by_cases h1 : a = k
              · rw [if_pos h1, if_pos h1, HX.out]
              · rw [if_neg h1, if_neg h1]
                by_cases h2 : a = J
                · rw [if_pos h2, if_pos (by have := HJ.out; omega), HY.out]
                · rw [if_neg h2, if_neg (by have := HJ.out; omega)])
            have HB2 : Hid (Below base w ((wq.setCell ⟨g, J, none⟩ (.int .u8 y)).setCell ⟨g, k, none⟩ (.int .u8 x))) := st.1.belowStore (hO'.out.belowStore hB'.out HB.out J _) HB.out k _
            clear st st2 hwq
            go_wp2_with fail
            go_region
            all_goals
              go_wp2_with fail
              go_roundw
              case rel => exact ⟨k, swA h k, by go_num, by omega, by exact HO2.out, HP2, HI2, ⟨HB2.out.os, HB2.out.tape, HB2.out.output, HB2.out.size, HB2.out.block⟩⟩
              case measure => simp [intOf]; omega
          · rw [decide_eq_false hxy] at CL
            have HS2 : Hid (SrtN h (i + 1)) := InsO.done (j := k) hI.out (by rw [hx, hy]; omega)
            clear hx hy hJ hxy
            go_wp2_with fail
            go_quiet ((go_at_call 189; (first | (with_reducible exact quiet_on (fun W' => CL.out W')) | (with_reducible exact quiet_at (fun W' => CL.out W')) | exact CL.out _)))
            go_wp2_with fail
            go_roundw
            case rel => exact ⟨i + 1, h, by go_num, by omega, .inl (by omega), by exact hO.out.drewN _, hP, HS2, below_drewN hB.out _⟩
            case measure => simp [intOf]; omega
    · go_wp2
      go_end0
      refine ⟨rfl, h, hO.out, hP.out, fun p q h1 h2 => hS.out p q h1 (by omega), hB.out⟩
def SortPostu8 (base n g cap : Nat) (f : Nat → Nat) (w : World) (e : Ending) (w' : World) : Prop :=
  e = .returned (.tuple #[]) ∧ ∃ f', Own w' base 5 g n cap (cellu8 f') ∧ (rowN n f').Perm (rowN n f) ∧ SrtN f' n ∧ Below base w w'
set_option maxRecDepth 100000 in
set_option maxHeartbeats 1000000 in
theorem pdq_u8 (n : Nat) (f : Nat → Nat) (base g cap : Nat) (v : Int) (w : World) (hn : n ≤ 12) (hO : Own w base 5 g n cap (cellu8 f)) (hb : base ≤ w.heap.size) :
    Calls Try.prog 157 #[.slice (some ⟨g, 0, none⟩) n cap, .int .i64 0, .int .i64 n, .int .i64 v] w (SortPostu8 base n g cap f w) := by
  have CI := Lib.hid (insertion_u8 n f base g cap w (by omega) hO hb)
  have n0 : IntKind.i64.wrap ((n : Int) - 0) = (n : Int) := by rw [Int.sub_zero]; exact IntWalk.i64_in _ (by omega)
  have n1 : (n : Int) ≤ 12 := by omega
  clear hO hb
  go_enter Try.func157, Try.ntmps157
  go_wp2_with fail
  go_loopw [1, 2, 3, 8, 9] (fun v1 v2 v3 v8 v9 wr => v1 = .int .i64 0 ∧ v2 = .int .i64 n ∧ v3 = .int .i64 v ∧ v8 = .bool true ∧ v9 = .bool true ∧ wr = w) (fun _ _ _ _ _ _ => 0)
  case atStart => exact ⟨rfl, rfl, rfl, rfl, rfl, rfl⟩
  case round =>
    obtain ⟨rfl, rfl, rfl, rfl, rfl, rfl⟩ := hrel
    go_wp2_with (first
      | (go_at_call 183; refine CI.out.mono ?_; rintro e w' ⟨rfl, f', ho, hp, hs, hbw⟩)
      | fail)
    go_end0
    exact ⟨rfl, f', ho, hp, hs, hbw⟩
set_option maxRecDepth 100000 in
set_option maxHeartbeats 1000000 in
theorem sort_u8 (n : Nat) (f : Nat → Nat) (base g cap : Nat) (w : World) (hn : n ≤ 12) (hO : Own w base 5 g n cap (cellu8 f)) (hb : base ≤ w.heap.size) :
    Calls Try.prog 118 #[.slice (some ⟨g, 0, none⟩) n cap] w (SortPostu8 base n g cap f w) := by
  have CI := Lib.hid (fun v => pdq_u8 n f base g cap v w hn hO hb)
  have CL := Lib.hid (fun W => bits_Len_smallu8 n W (by omega))
  have wu : IntKind.u64.wrap (n : Int) = (n : Int) := by
    simp only [IntKind.wrap, IntKind.signed, IntKind.bits]
    simp
    omega
  clear hO hb
  go_enter Try.func118, Try.ntmps118
  go_wp2_with (first
    | (go_at_call 153; refine (CL.out _).mono ?_; rintro e w' ⟨⟨v, rfl⟩, rfl⟩)
    | (go_at_call 157; refine (CI.out v).mono ?_; rintro e w2 ⟨rfl, f', ho, hp, hs, hbw⟩)
    | fail)
  go_end0
  exact ⟨rfl, f', ho, hp, hs, hbw⟩
end Go.Proofs.Ytgdcmebhopjfaaa
