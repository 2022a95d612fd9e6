/- MatrixSolves: the walk, of whatever table and bytes. -/
import Derived.Test.YtgdcmebhopjfaaaMatrixSa
import Derived.Test.YtgdcmebhopjfaaaMatrixSb
import Derived.Test.YtgdcmebhopjfaaaMatrixSc
namespace Go.Proofs.Ytgdcmebhopjfaaa
open Go.RowKit

theorem rowOk_inS {w : World} {ao : Option Addr} {len cap : Nat} {zs : List Int} (h : IntsIn .u8 w ao len zs ∧ CapOk ao len cap) : RowOk w ⟨ao, cap, zs.map Int.toNat⟩ ∧ (zs.map Int.toNat).length = len := by
  obtain ⟨⟨h1, h2, h3, h4⟩, h5, h6, h7⟩ := h
  have hl : (zs.map Int.toNat).length = len := by rw [List.length_map]; exact h1
  have hz : ∀ z ∈ zs, 0 ≤ z ∧ z ≤ 255 := fun z hz => u8_wf (h3 z hz)
  have hu : u8s (zs.map Int.toNat) = zs.map (Value.int .u8) := by
    unfold u8s
    rw [List.map_map]
    refine List.map_congr_left fun z hzm => ?_
    simp only [Function.comp]
    rw [Int.toNat_of_nonneg (hz z hzm).1]
  refine ⟨⟨fun e => ?_, ?_, h7, ?_, ?_⟩, hl⟩
  · simp only at e ⊢; rw [hl]; exact h5 e
  · simp only; rw [hl]; exact h6
  · simp only; rw [hu]; exact h4
  · intro z hzm
    obtain ⟨y, hy, rfl⟩ := List.mem_map.1 hzm
    have := hz y hy
    omega
theorem matrixSolves_walk (a0 : Option Addr) (len0 cap0 : Nat) (S : List Hd) (a1 : Option Addr) (len1 cap1 : Nat) (z1 : List Int) (w : World) (hS : TabIn w a0 len0 S) (w1 : IntsIn .u8 w a1 len1 z1 ∧ CapOk a1 len1 cap1) :
    Calls Try.prog 7 #[.slice a0 len0 cap0, .slice a1 len1 cap1] w fun e w' => e = .returned (.bool true) ∧ Below w.heap.size w w' := by
  obtain ⟨h1, l1⟩ := rowOk_inS w1
  obtain ⟨y, hy⟩ : ∃ y : Hd, y = ⟨a1, cap1, z1.map Int.toNat⟩ := ⟨_, rfl⟩
  have ey : y.v = .slice a1 len1 cap1 := by rw [hy]; unfold Hd.v; simp only; rw [l1]
  rw [← hy] at h1
  rw [← ey]
  by_cases hE : tabE (zof S) = 0
  · obtain ⟨C, oS, hCe⟩ := hS.ok hE
    have hC : C ≤ 12 := by rw [hCe]; exact tabE_le hE
    by_cases hnC : C = len0
    · by_cases hD : detG len0 (matM (zof S)) = 0
      · by_cases hl : y.Z.length = len0
        · by_cases hdep : Dep len0 (wideG (matM (zof S)) (bbF y.Z) C) C
          · exact solves_zero_ok S y len0 C a0 cap0 w hS hE oS hC h1 hnC hD hl hdep
          · exact solves_zero_none S y len0 C a0 cap0 w hS hE oS hC h1 hnC hD hl hdep
        · exact solves_zero_form S y len0 C a0 cap0 w hS hE oS hC h1 hnC hD hl
      · by_cases hl : y.Z.length = len0
        · by_cases hdep : Dep len0 (wideG (matM (zof S)) (bbF y.Z) C) C
          · exact solves_inv_ok S y len0 C a0 cap0 w hS hE oS hC h1 hnC hD hl hdep
          · exact solves_inv_none S y len0 C a0 cap0 w hS hE oS hC h1 hnC hD hl hdep
        · exact solves_inv_form S y len0 C a0 cap0 w hS hE oS hC h1 hnC hD hl
    · have hnC' : len0 ≠ C := fun e => hnC e.symm
      by_cases hl : y.Z.length = len0
      · by_cases hdep : Dep len0 (wideG (matM (zof S)) (bbF y.Z) C) C
        · exact solves_wide_ok S y len0 C a0 cap0 w hS hE oS hC h1 hnC' hl hdep
        · exact solves_wide_none S y len0 C a0 cap0 w hS hE oS hC h1 hnC' hl hdep
      · exact solves_wide_form S y len0 C a0 cap0 w hS hE oS hC h1 hnC' hl
  · exact solves_bad S y len0 a0 cap0 w hS h1 hE
end Go.Proofs.Ytgdcmebhopjfaaa
