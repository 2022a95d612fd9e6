/- slices.Reverse at uint16, on a row of the call's own. -/
import Derived.Test.YtmeffbooabionaaReverse
set_option linter.unusedVariables false
set_option linter.unusedSimpArgs false
namespace Go.Proofs.Ytmeffbooabionaa
open Go.RowKit

set_option maxRecDepth 20000 in
set_option maxHeartbeats 1000000 in
theorem reverse_u16 (base T : Nat) (g cap : Nat) (zs : List Int) (w : World) (hz : zs.length ≤ 1000000000)
    (hown : w.ownsRow base T 1 (.slice (some ⟨g, 0, none⟩) zs.length cap) zs.length (zs.map (Value.int .u16))) :
    Calls Try.prog 63 #[.slice (some ⟨g, 0, none⟩) zs.length cap] w fun e w' => e = .returned (.tuple #[]) ∧
      w'.ownsRow base T 1 (.slice (some ⟨g, 0, none⟩) zs.length cap) zs.length (zs.reverse.map (Value.int .u16)) ∧ w.grownBy w' (some g) := by
  obtain ⟨n, hlen⟩ : ∃ n, zs.length = n := ⟨_, rfl⟩
  rw [hlen] at hz hown ⊢
  have HL := Lib.hid hlen
  have HOWN := Lib.hid hown
  clear hlen hown
  go_enter Try.func63, Try.ntmps63
  go_wp2_with fail
  go_loopw [2, 3] (fun vi vj wr => ∃ k : Nat, vi = .int .i64 k ∧ vj = .int .i64 ((n : Int) - 1 - k) ∧ 2 * k ≤ n + 1 ∧ Hid (wr.ownsRow base T 1 (.slice (some ⟨g, 0, none⟩) n cap) n ((swapK zs k).map (Value.int .u16))) ∧ Hid (w.grownBy wr (some g))) (fun vi _ _ => n - (intOf vi).toNat)
  case atStart => exact ⟨0, rfl, by go_num, by omega, by show World.ownsRow _ _ _ _ _ _ _; rw [swapK_zero]; exact HOWN.out, World.grownBy.refl _ _⟩
  case round =>
    obtain ⟨k, rfl, rfl, hk, ho, hg⟩ := hrel
    by_cases hkj : 2 * k + 1 < n
    · obtain ⟨j, hj⟩ : ∃ j, n - 1 - k = j := ⟨_, rfl⟩
      have hji : (n : Int) - 1 - k = (j : Int) := by omega
      have x1 : wr.cell? ⟨g, k, none⟩ = some (.int .u16 (zs.getD k 0)) := by
        rw [ho.out.cellAt k (by omega), List.getElem?_map, swapK_get zs k k (by rw [HL.out]; omega), if_neg (by rw [HL.out]; omega)]; rfl
      have x2 : wr.cell? ⟨g, j, none⟩ = some (.int .u16 (zs.getD j 0)) := by
        rw [ho.out.cellAt j (by omega), List.getElem?_map, swapK_get zs k j (by rw [HL.out]; omega), if_neg (by rw [HL.out]; omega)]; rfl
      obtain ⟨x, hx⟩ : ∃ x, zs.getD k 0 = x := ⟨_, rfl⟩
      obtain ⟨y, hy⟩ : ∃ y, zs.getD j 0 = y := ⟨_, rfl⟩
      rw [hx] at x1
      rw [hy] at x2
      have f1 := ho.out.frozenAt k
      have f2 := ho.out.frozenAt j
      have s1 := ho.out.stored k (.int .u16 y)
      have s2 := s1.1.stored j (.int .u16 x)
      have e : (((swapK zs k).map (Value.int .u16)).set k (.int .u16 y)).set j (.int .u16 x) = (swapK zs (k + 1)).map (Value.int .u16) := by
        rw [← swapK_step zs k (by rw [HL.out]; exact hkj), List.map_set, List.map_set, HL.out, hj, hx, hy]
      rw [e] at s2
      have HS := Lib.hid s2.1
      have HG : Hid (w.grownBy ((wr.setCell ⟨g, k, none⟩ (.int .u16 y)).setCell ⟨g, j, none⟩ (.int .u16 x)) (some g)) := by
        have a := hg.out; have b := s1.2; have c := s2.2
        refine ⟨c.os.trans (b.os.trans a.os), c.tape.trans (b.tape.trans a.tape), c.output.trans (b.output.trans a.output), Nat.le_trans a.size (Nat.le_trans b.size c.size), fun q hq hne => ?_⟩
        rw [c.block q (Nat.lt_of_lt_of_le hq (Nat.le_trans a.size b.size)) hne, b.block q (Nat.lt_of_lt_of_le hq a.size) hne, a.block q hq hne]
      have i0 : (0 : Int) ≤ k := by omega
      have i1 : (k : Int) < n := by omega
      have j0 : (0 : Int) ≤ j := by omega
      have j1 : (j : Int) < n := by omega
      have hkl : (k : Int) < j := by omega
      have hj2 : (j : Int) + k + 1 = n := by omega
      have HJ2 : Hid (j + k + 1 = n) := by show _ = _; omega
      clear s1 s2 e hx hy hj hj2
      rw [hji]
      clear hji
      go_wp2_with fail
      go_region
      go_wp2_with fail
      go_roundw
      case rel => exact ⟨k + 1, by go_num, by have := HJ2.out; go_num, by omega, HS.out, ⟨HG.out.os, HG.out.tape, HG.out.output, HG.out.size, HG.out.block⟩⟩
      case measure => simp [intOf]; omega
    · have hfin := Lib.hid ho.out
      go_wp2_with fail
      go_end0
      exact ⟨rfl, by rw [← swapK_full zs k (by rw [HL.out]; omega)]; exact hfin.out, hg.out⟩

set_option maxHeartbeats 400000 in
theorem reverse_nil16 (w : World) :
    Calls Try.prog 63 #[.slice none 0 0] w fun e w' => e = .returned (.tuple #[]) ∧ w = w' := by
  go_enter Try.func63, Try.ntmps63
  go_wp2_with fail
  refine wp_loop_rounds 1 ?_
  rw [rounds_succ]
  go_wp2_with fail
  go_end0
  exact ⟨rfl, rfl⟩
end Go.Proofs.Ytmeffbooabionaa
