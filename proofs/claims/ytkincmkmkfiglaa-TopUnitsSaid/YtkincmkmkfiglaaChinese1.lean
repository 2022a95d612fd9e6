/- Contracts of chinese.Check, and of slices.ContainsFunc at the law's tests. -/
import Derived.Test.YtkincmkmkfiglaaRows
import Derived.Test.YtkincmkmkfiglaaArgs2
import Derived.Test.YtkincmkmkfiglaaSlices
import Derived.Test.YtkincmkmkfiglaaChinM
import Derived.Test.YtkincmkmkfiglaaRest
namespace Go.Proofs.Ytkincmkmkfiglaa
open Go.RowKit

def mBad (m : Int) : Bool := decide (m < 1 ∨ 1000 < m)
def rBad (z : Int × Int) : Bool := decide (z.2 < 1 ∨ 1000 < z.2 ∨ z.1 < 0 ∨ z.2 ≤ z.1)
def chinE (zs : List (Int × Int)) : Int := if 6 < zs.length then 2 else if zs.any rBad then 1 else 0
def pairR (zs : List (Int × Int)) : List Value := cells2 (zs.map fun z => (.int .i64 z.1, .int .i64 z.2))
theorem pairR_get {zs : List (Int × Int)} {k : Nat} {z : Int × Int} (h : zs[k]? = some z) : (pairR zs)[k * 2]? = some (.int .i64 z.1) ∧ (pairR zs)[k * 2 + 1]? = some (.int .i64 z.2) :=
  cells2_get (zs.map fun (z : Int × Int) => (Value.int .i64 z.1, Value.int .i64 z.2)) k (.int .i64 z.1, .int .i64 z.2) (by rw [List.getElem?_map, h]; rfl)
/-- The two cells of a pair that is read. -/
theorem pair_cell {w : World} {ao : Option Addr} {zs : List (Int × Int)} (hR : Reads w ao (pairR zs)) {k : Nat} {z : Int × Int} (h : zs[k]? = some z) :
    ∃ b o, ao = some ⟨b, o, none⟩ ∧ w.cell? ⟨b, o + k * 2, none⟩ = some (.int .i64 z.1) ∧ w.cell? ⟨b, o + k * 2 + 1, none⟩ = some (.int .i64 z.2) := by
  obtain ⟨h1, h2⟩ := pairR_get h
  obtain ⟨b, o, rfl, c1⟩ := hR _ _ h1
  obtain ⟨b2, o2, ha2, c2⟩ := hR _ _ h2
  injection ha2 with ha2
  injection ha2 with hb2 ho2
  subst hb2 ho2
  exact ⟨b, o, rfl, c1, by rw [Nat.add_assoc]; exact c2⟩
theorem chinese_modulus (m : Int) (w : World) : Calls Try.prog 94 #[.int .i64 m] w fun e w' => e = .returned (.bool (!mBad m)) ∧ w = w' := by
  unfold mBad
  by_cases h1 : 1 ≤ m
  · have d1 : decide (1 ≤ m) = true := decide_eq_true h1
    by_cases h2 : m ≤ 1000
    · have d2 : decide (m ≤ 1000) = true := decide_eq_true h2
      rw [decide_eq_false (by omega)]
      go_enter Try.func94, Try.ntmps94
      go_wp2_with fail
      go_ret
      exact ⟨rfl, rfl⟩
    · have d2 : decide (m ≤ 1000) = false := decide_eq_false h2
      rw [decide_eq_true (by omega)]
      go_enter Try.func94, Try.ntmps94
      go_wp2_with fail
      go_ret
      exact ⟨rfl, rfl⟩
  · have d1 : decide (1 ≤ m) = false := decide_eq_false h1
    rw [decide_eq_true (by omega)]
    go_enter Try.func94, Try.ntmps94
    go_wp2_with fail
    go_ret
    exact ⟨rfl, rfl⟩
theorem chin1 (m : Int) (w : World) : Calls Try.prog 28 #[.int .i64 m] w fun e w' => e = .returned (.bool (mBad m)) ∧ w = w' := by
  unfold mBad
  by_cases h1 : m < 1
  · have d1 : decide (m < 1) = true := decide_eq_true h1
    rw [decide_eq_true (by omega)]
    go_enter Try.func28, Try.ntmps28
    go_wp2_with fail
    go_ret
    exact ⟨rfl, rfl⟩
  · have d1 : decide (m < 1) = false := decide_eq_false h1
    by_cases h2 : 1000 < m
    · have d2 : decide (1000 < m) = true := decide_eq_true h2
      rw [decide_eq_true (by omega)]
      go_enter Try.func28, Try.ntmps28
      go_wp2_with fail
      go_ret
      exact ⟨rfl, rfl⟩
    · have d2 : decide (1000 < m) = false := decide_eq_false h2
      rw [decide_eq_false (by omega)]
      go_enter Try.func28, Try.ntmps28
      go_wp2_with fail
      go_ret
      exact ⟨rfl, rfl⟩
theorem chin2 (z : Int × Int) (w : World) : Calls Try.prog 30 #[.agg #[.int .i64 z.1, .int .i64 z.2]] w fun e w' => e = .returned (.bool (rBad z)) ∧ Below w.heap.size w w' := by
  obtain ⟨R, M⟩ := z
  unfold rBad
  dsimp only
  have hb : Hid (Below w.heap.size w (w.alloc (.cells #[.int .i64 R, .int .i64 M] 53))) := Below.alloc (Below.refl _ _) (Nat.le_refl _) _
  by_cases h1 : M < 1
  · have d1 : decide (M < 1) = true := decide_eq_true h1
    rw [decide_eq_true (by omega)]
    go_enter Try.func30, Try.ntmps30
    go_wp2_with fail
    go_ret
    exact ⟨rfl, hb.out⟩
  · have d1 : decide (M < 1) = false := decide_eq_false h1
    by_cases h2 : 1000 < M
    · have d2 : decide (1000 < M) = true := decide_eq_true h2
      rw [decide_eq_true (by omega)]
      go_enter Try.func30, Try.ntmps30
      go_wp2_with fail
      go_ret
      exact ⟨rfl, hb.out⟩
    · have d2 : decide (1000 < M) = false := decide_eq_false h2
      by_cases h3 : R < 0
      · have d3 : decide (R < 0) = true := decide_eq_true h3
        rw [decide_eq_true (by omega)]
        go_enter Try.func30, Try.ntmps30
        go_wp2_with fail
        go_ret
        exact ⟨rfl, hb.out⟩
      · have d3 : decide (R < 0) = false := decide_eq_false h3
        by_cases h4 : M ≤ R
        · have d4 : decide (M ≤ R) = true := decide_eq_true h4
          rw [decide_eq_true (by omega)]
          go_enter Try.func30, Try.ntmps30
          go_wp2_with fail
          go_ret
          exact ⟨rfl, hb.out⟩
        · have d4 : decide (M ≤ R) = false := decide_eq_false h4
          rw [decide_eq_false (by omega)]
          go_enter Try.func30, Try.ntmps30
          go_wp2_with fail
          go_ret
          exact ⟨rfl, hb.out⟩
theorem hfn2 : ∀ (x : Value) (W : World), (callFunc 30 #[x]).run Try.prog W = .ok (.enter 30 #[x]) W := by
  intro x W
  show (_ : Result _) = _
  kernel_rfl
set_option maxRecDepth 20000 in
set_option maxHeartbeats 400000 in
theorem indexFunc_rest (zs : List (Int × Int)) (ao : Option Addr) (cap : Nat) (w : World) (hl : zs.length ≤ 9223372036854775807) (hR : Hid (Reads w ao (pairR zs))) :
    Calls Try.prog 97 #[.slice ao zs.length cap, .func (.func 30) #[] #[]] w fun e w' => (∃ i : Int, e = .returned (.int .i64 i) ∧ decide (0 ≤ i) = zs.any rBad) ∧ Below w.heap.size w w' := by
  obtain ⟨len, hlen⟩ : ∃ n, zs.length = n := ⟨_, rfl⟩
  rw [hlen] at hl ⊢
  have HL := Lib.hid hlen
  have hfn := hfn2
  clear hlen
  go_enter Try.func97, Try.ntmps97
  go_wp2_with fail
  go_loopw [8] (fun vi wr => ∃ k : Nat, vi = .int .i64 k ∧ k ≤ len ∧ Hid (∀ j y, j < k → zs[j]? = some y → rBad y = false) ∧ Hid (Below w.heap.size w wr)) (fun vi _ => len - (intOf vi).toNat)
  case atStart => exact ⟨0, rfl, by omega, Lib.hid (by intro j y hj; omega), Below.refl _ _⟩
  case round =>
    obtain ⟨k, rfl, hk, hno, hb⟩ := hrel
    by_cases hkl : k < len
    · obtain ⟨z, hz⟩ : ∃ z, zs[k]? = some z := ⟨zs[k]'(by rw [HL.out]; exact hkl), List.getElem?_eq_getElem _⟩
      obtain ⟨b, o, rfl, c1, c2⟩ := pair_cell (hR.out.below hb.out) hz
      have HZ := Lib.hid hz
      have hcall := Lib.hid (chin2 z wr)
      obtain ⟨t, ht⟩ : ∃ t, rBad z = t := ⟨_, rfl⟩
      rw [ht] at hcall
      have HT := Lib.hid ht
      clear hz ht
      cases t
      · have hno2 : Hid (∀ j y, j < k + 1 → zs[j]? = some y → rBad y = false) := by
          intro j y hj hy
          rcases Nat.lt_or_ge j k with h | h
          · exact hno.out j y h hy
          · obtain rfl : j = k := by omega
            rw [HZ.out] at hy; cases hy; exact HT.out
        go_wp2_with fail
        refine hcall.out.mono ?_
        rintro e w' ⟨rfl, hb2⟩
        have HB := Lib.hid (hb.out.trans (Below.mono hb2 hb.out.size))
        clear hb2
        go_wp2_with fail
        go_roundw
        case rel => exact ⟨k + 1, by go_num, by omega, hno2, HB⟩
        case measure => simp [intOf]; omega
      · have hany : Hid (zs.any rBad = true) := List.any_eq_true.2 ⟨z, List.mem_of_getElem? HZ.out, HT.out⟩
        go_wp2_with fail
        refine hcall.out.mono ?_
        rintro e w' ⟨rfl, hb2⟩
        have HB := Lib.hid (hb.out.trans (Below.mono hb2 hb.out.size))
        clear hb2
        go_wp2_with fail
        go_ret
        exact ⟨⟨k, rfl, by rw [hany.out]; simp⟩, HB.out⟩
    · have hany : Hid (zs.any rBad = false) := by
        show _ = _
        rw [List.any_eq_false]
        intro z hz
        obtain ⟨j, hj, he⟩ := List.mem_iff_getElem.1 hz
        have := hno.out j z (by rw [HL.out] at hj; omega) (by rw [List.getElem?_eq_getElem hj, he])
        rw [this]; decide
      go_wp2_with fail
      go_ret
      exact ⟨⟨-1, rfl, by rw [hany.out]; rfl⟩, hb.out⟩
theorem containsFunc_rest (zs : List (Int × Int)) (ao : Option Addr) (cap : Nat) (w : World) (hl : zs.length ≤ 9223372036854775807) (hR : Hid (Reads w ao (pairR zs))) :
    Calls Try.prog 29 #[.slice ao zs.length cap, .func (.func 30) #[] #[]] w fun e w' => e = .returned (.bool (zs.any rBad)) ∧ Below w.heap.size w w' := by
  have HI := Lib.hid (indexFunc_rest zs ao cap w hl hR)
  go_enter Try.func29, Try.ntmps29
  go_wp2_with fail
  refine HI.out.mono ?_
  rintro e w' ⟨⟨i, rfl, hi⟩, hb⟩
  have HB := Lib.hid hb
  have HD := Lib.hid hi
  clear hi hb
  go_wp2_with fail
  go_ret
  exact ⟨by rw [← HD.out]; rfl, HB.out⟩
end Go.Proofs.Ytkincmkmkfiglaa
