/- slices.Reverse at ints, on a row of the call's own. -/
import Derived.Test.YtmeffbooabionaaRows
import Derived.Test.YtmeffbooabionaaMem
import Derived.RegionTactic
import Derived.ChangeAlike
set_option linter.unusedVariables false
set_option linter.unusedSimpArgs false
namespace Go.Proofs.Ytmeffbooabionaa
open Go.RowKit

/-- A list of which the first k and the last k places are exchanged. -/
def swapK (zs : List Int) (k : Nat) : List Int := (List.range zs.length).map fun t => if t < k ∨ zs.length - k ≤ t then zs.getD (zs.length - 1 - t) 0 else zs.getD t 0
theorem swapK_length (zs : List Int) (k : Nat) : (swapK zs k).length = zs.length := by simp [swapK]
theorem swapK_get (zs : List Int) (k t : Nat) (h : t < zs.length) : (swapK zs k)[t]? = some (if t < k ∨ zs.length - k ≤ t then zs.getD (zs.length - 1 - t) 0 else zs.getD t 0) := by
  simp [swapK, h]
theorem swapK_zero (zs : List Int) : swapK zs 0 = zs := by
  apply List.ext_getElem?
  intro t
  by_cases h : t < zs.length
  · rw [swapK_get zs 0 t h, if_neg (by omega), List.getD_eq_getElem?_getD, List.getElem?_eq_getElem h]; simp
  · rw [List.getElem?_eq_none (by rw [swapK_length]; omega), List.getElem?_eq_none (by omega)]
theorem swapK_full (zs : List Int) (k : Nat) (hk : zs.length ≤ 2 * k + 1) : swapK zs k = zs.reverse := by
  apply List.ext_getElem?
  intro t
  by_cases h : t < zs.length
  · rw [swapK_get zs k t h, List.getElem?_reverse h]
    have h2 : zs.length - 1 - t < zs.length := by omega
    rw [List.getElem?_eq_getElem h2]
    split
    · rw [List.getD_eq_getElem?_getD, List.getElem?_eq_getElem h2]; rfl
    · have : zs.length - 1 - t = t := by omega
      rw [List.getD_eq_getElem?_getD, List.getElem?_eq_getElem h]; simp [this]
  · rw [List.getElem?_eq_none (by rw [swapK_length]; omega), List.getElem?_eq_none (by simp; omega)]
theorem swapK_step (zs : List Int) (k : Nat) (hk : 2 * k + 1 < zs.length) :
    ((swapK zs k).set k (zs.getD (zs.length - 1 - k) 0)).set (zs.length - 1 - k) (zs.getD k 0) = swapK zs (k + 1) := by
  apply List.ext_getElem?
  intro t
  by_cases h : t < zs.length
  · rw [List.getElem?_set, List.getElem?_set, swapK_get zs (k + 1) t h, swapK_get zs k t h]
    simp only [List.length_set, swapK_length]
    by_cases h1 : zs.length - 1 - k = t
    · subst h1
      rw [if_pos rfl, if_pos h, if_pos (by omega)]
      congr 2; omega
    · rw [if_neg h1]
      by_cases h2 : k = t
      · subst h2
        rw [if_pos rfl, if_pos h, if_pos (by omega)]
      · rw [if_neg h2]
        congr 1
        by_cases h3 : t < k ∨ zs.length - k ≤ t
        · rw [if_pos h3, if_pos (by omega)]
        · rw [if_neg h3, if_neg (by omega)]
  · rw [List.getElem?_eq_none (by simp [swapK_length]; omega), List.getElem?_eq_none (by rw [swapK_length]; omega)]

set_option maxRecDepth 20000 in
set_option maxHeartbeats 1000000 in
theorem reverse_int (base T : Nat) (g cap : Nat) (zs : List Int) (w : World) (hz : zs.length ≤ 1000000000)
    (hown : w.ownsRow base T 1 (.slice (some ⟨g, 0, none⟩) zs.length cap) zs.length (zs.map (Value.int .i64))) :
    Calls Try.prog 79 #[.slice (some ⟨g, 0, none⟩) zs.length cap] w fun e w' => e = .returned (.tuple #[]) ∧
      w'.ownsRow base T 1 (.slice (some ⟨g, 0, none⟩) zs.length cap) zs.length (zs.reverse.map (Value.int .i64)) ∧ w.grownBy w' (some g) := by
  obtain ⟨n, hlen⟩ : ∃ n, zs.length = n := ⟨_, rfl⟩
  rw [hlen] at hz hown ⊢
  have HL := Lib.hid hlen
  have HOWN := Lib.hid hown
  clear hlen hown
  go_enter Try.func79, Try.ntmps79
  go_wp2_with fail
  go_loopw [2, 3] (fun vi vj wr => ∃ k : Nat, vi = .int .i64 k ∧ vj = .int .i64 ((n : Int) - 1 - k) ∧ 2 * k ≤ n + 1 ∧ Hid (wr.ownsRow base T 1 (.slice (some ⟨g, 0, none⟩) n cap) n ((swapK zs k).map (Value.int .i64))) ∧ Hid (w.grownBy wr (some g))) (fun vi _ _ => n - (intOf vi).toNat)
  case atStart => exact ⟨0, rfl, by go_num, by omega, by show World.ownsRow _ _ _ _ _ _ _; rw [swapK_zero]; exact HOWN.out, World.grownBy.refl _ _⟩
  case round =>
    obtain ⟨k, rfl, rfl, hk, ho, hg⟩ := hrel
    by_cases hkj : 2 * k + 1 < n
    · obtain ⟨j, hj⟩ : ∃ j, n - 1 - k = j := ⟨_, rfl⟩
      have hji : (n : Int) - 1 - k = (j : Int) := by omega
      have x1 : wr.cell? ⟨g, k, none⟩ = some (.int .i64 (zs.getD k 0)) := by
        rw [ho.out.cellAt k (by omega), List.getElem?_map, swapK_get zs k k (by rw [HL.out]; omega), if_neg (by rw [HL.out]; omega)]; rfl
      have x2 : wr.cell? ⟨g, j, none⟩ = some (.int .i64 (zs.getD j 0)) := by
        rw [ho.out.cellAt j (by omega), List.getElem?_map, swapK_get zs k j (by rw [HL.out]; omega), if_neg (by rw [HL.out]; omega)]; rfl
      obtain ⟨x, hx⟩ : ∃ x, zs.getD k 0 = x := ⟨_, rfl⟩
      obtain ⟨y, hy⟩ : ∃ y, zs.getD j 0 = y := ⟨_, rfl⟩
      rw [hx] at x1
      rw [hy] at x2
      have f1 := ho.out.frozenAt k
      have f2 := ho.out.frozenAt j
      have s1 := ho.out.stored k (.int .i64 y)
      have s2 := s1.1.stored j (.int .i64 x)
      have e : (((swapK zs k).map (Value.int .i64)).set k (.int .i64 y)).set j (.int .i64 x) = (swapK zs (k + 1)).map (Value.int .i64) := by
        rw [← swapK_step zs k (by rw [HL.out]; exact hkj), List.map_set, List.map_set, HL.out, hj, hx, hy]
      rw [e] at s2
      have HS := Lib.hid s2.1
      have HG : Hid (w.grownBy ((wr.setCell ⟨g, k, none⟩ (.int .i64 y)).setCell ⟨g, j, none⟩ (.int .i64 x)) (some g)) := by
        have a := hg.out; have b := s1.2; have c := s2.2
        refine ⟨c.os.trans (b.os.trans a.os), c.tape.trans (b.tape.trans a.tape), c.output.trans (b.output.trans a.output), Nat.le_trans a.size (Nat.le_trans b.size c.size), fun q hq hne => ?_⟩
        rw [c.block q (Nat.lt_of_lt_of_le hq (Nat.le_trans a.size b.size)) hne, b.block q (Nat.lt_of_lt_of_le hq a.size) hne, a.block q hq hne]
      have i0 : (0 : Int) ≤ k := by omega
      have i1 : (k : Int) < n := by omega
      have j0 : (0 : Int) ≤ j := by omega
      have j1 : (j : Int) < n := by omega
      have hkl : (k : Int) < j := by omega
      have hj2 : (j : Int) + k + 1 = n := by omega
      have HJ2 : Hid (j + k + 1 = n) := by show _ = _; omega
      clear s1 s2 e hx hy hj hj2
      rw [hji]
      clear hji
      go_wp2_with fail
      go_region
      go_wp2_with fail
      go_roundw
      case rel => exact ⟨k + 1, by go_num, by have := HJ2.out; go_num, by omega, HS.out, ⟨HG.out.os, HG.out.tape, HG.out.output, HG.out.size, HG.out.block⟩⟩
      case measure => simp [intOf]; omega
    · have hfin := Lib.hid ho.out
      go_wp2_with fail
      go_end0
      exact ⟨rfl, by rw [← swapK_full zs k (by rw [HL.out]; omega)]; exact hfin.out, hg.out⟩

set_option maxHeartbeats 400000 in
theorem reverse_nil (w : World) :
    Calls Try.prog 79 #[.slice none 0 0] w fun e w' => e = .returned (.tuple #[]) ∧ w = w' := by
  go_enter Try.func79, Try.ntmps79
  go_wp2_with fail
  refine wp_loop_rounds 1 ?_
  rw [rounds_succ]
  go_wp2_with fail
  go_end0
  exact ⟨rfl, rfl⟩
end Go.Proofs.Ytmeffbooabionaa
