/- GridSays: the walk, of whatever bytes and number. -/
import Derived.Test.YtgdcmebhopjfaaaGridK2
namespace Go.Proofs.Ytgdcmebhopjfaaa
open Go.RowKit

theorem rowOk_in {w : World} {ao : Option Addr} {len cap : Nat} {zs : List Int} (h : IntsIn .u8 w ao len zs ∧ CapOk ao len cap) : RowOk w ⟨ao, cap, zs.map Int.toNat⟩ ∧ (zs.map Int.toNat).length = len := by
  obtain ⟨⟨h1, h2, h3, h4⟩, h5, h6, h7⟩ := h
  have hl : (zs.map Int.toNat).length = len := by rw [List.length_map]; exact h1
  have hz : ∀ z ∈ zs, 0 ≤ z ∧ z ≤ 255 := fun z hz => u8_wf (h3 z hz)
  have hu : u8s (zs.map Int.toNat) = zs.map (Value.int .u8) := by
    unfold u8s
    rw [List.map_map]
    refine List.map_congr_left fun z hzm => ?_
    simp only [Function.comp]
    rw [Int.toNat_of_nonneg (hz z hzm).1]
  refine ⟨⟨fun e => ?_, ?_, h7, ?_, ?_⟩, hl⟩
  · simp only at e ⊢; rw [hl]; exact h5 e
  · simp only; rw [hl]; exact h6
  · simp only; rw [hu]; exact h4
  · intro z hzm
    obtain ⟨y, hy, rfl⟩ := List.mem_map.1 hzm
    have := hz y hy
    omega
theorem grid_walk (a0 : Option Addr) (len0 cap0 : Nat) (z0 : List Int) (a1 : Option Addr) (len1 cap1 : Nat) (z1 : List Int) (m : Int) (w : World) (w0 : IntsIn .u8 w a0 len0 z0 ∧ CapOk a0 len0 cap0) (w1 : IntsIn .u8 w a1 len1 z1 ∧ CapOk a1 len1 cap1) (w2 : (Lit.int .i64 m).wf = true) :
    Calls Try.prog 8 #[.slice a0 len0 cap0, .slice a1 len1 cap1, .int .i64 m] w fun e w' => e = .returned (.bool true) ∧ Below w.heap.size w w' := by
  obtain ⟨h0, l0⟩ := rowOk_in w0
  obtain ⟨h1, l1⟩ := rowOk_in w1
  obtain ⟨x, hx⟩ : ∃ x : Hd, x = ⟨a0, cap0, z0.map Int.toNat⟩ := ⟨_, rfl⟩
  obtain ⟨y, hy⟩ : ∃ y : Hd, y = ⟨a1, cap1, z1.map Int.toNat⟩ := ⟨_, rfl⟩
  have ex : x.v = .slice a0 len0 cap0 := by rw [hx]; unfold Hd.v; simp only; rw [l0]
  have ey : y.v = .slice a1 len1 cap1 := by rw [hy]; unfold Hd.v; simp only; rw [l1]
  rw [← hx] at h0
  rw [← hy] at h1
  rw [← ex, ← ey]
  by_cases hE : unE x.Z = 0
  · by_cases hm : 1 ≤ m ∧ m ≤ 12
    · obtain ⟨k, rfl⟩ : ∃ k : Nat, m = k := ⟨m.toNat, by omega⟩
      by_cases hE' : unE y.Z = 0
      · cases hM : meetB x.Z y.Z with
        | true => exact grid_g_meet x y k w h0 h1 hE (by omega) (by omega) hE' hM
        | false => exact grid_g_ok x y k w h0 h1 hE (by omega) (by omega) hE' hM
      · exact grid_g_err x y k w h0 h1 hE (by omega) (by omega) hE'
    · by_cases hE' : unE y.Z = 0
      · cases hM : meetB x.Z y.Z with
        | true => exact grid_b_meet x y m w h0 h1 hE w2 (by omega) hE' hM
        | false => exact grid_b_ok x y m w h0 h1 hE w2 (by omega) hE' hM
      · exact grid_b_err x y m w h0 h1 hE w2 (by omega) hE'
  · exact grid_bad x y m w w2 h0 h1 hE
end Go.Proofs.Ytgdcmebhopjfaaa
