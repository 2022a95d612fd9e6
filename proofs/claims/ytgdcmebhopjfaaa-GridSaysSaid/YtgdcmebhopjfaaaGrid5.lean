/- grid.Crossed where it refuses. -/
import Derived.Test.YtgdcmebhopjfaaaGrid4
namespace Go.Proofs.Ytgdcmebhopjfaaa
open Go.RowKit

set_option maxRecDepth 100000 in
set_option maxHeartbeats 2000000 in
theorem grid_Crossed_bad (h h' : Hd) (E : Int) (w : World) (hh : RowOk w h) (hh' : RowOk w h') (hE : (unE h.Z = E ∧ E ≠ 0) ∨ (unE h.Z = 0 ∧ unE h'.Z = E ∧ E ≠ 0) ∨ (unE h.Z = 0 ∧ unE h'.Z = 0 ∧ meetB h.Z h'.Z = true ∧ E = 6)) :
    Calls Try.prog 48 #[h.v, h'.v] w (TabBad E w) := by
  obtain ⟨B, hB⟩ : ∃ B, w.heap.size = B := ⟨_, rfl⟩
  obtain ⟨W, hW⟩ : ∃ W, w.alloc (.cells #[h'.v] 59) = W := ⟨_, rfl⟩
  have hbW : Below w.heap.size w W := by rw [← hW]; exact (Below.refl _ w).alloc (Nat.le_refl _) _
  have hcW : W.cell? ⟨B, 0, none⟩ = some h'.v := by rw [← hW, ← hB]; simp [World.cell?_alloc_new]
  have CK := Lib.hid (fun X (hX : Below W.heap.size W X) => grid_check h X ((hh.below hbW).below hX))
  have CK' := Lib.hid (fun X (hX : Below W.heap.size W X) => grid_check h' X ((hh'.below hbW).below hX))
  have CM := Lib.hid (fun X (hX : Below W.heap.size W X) => meets 117 (.inl rfl) h h' B X ((hh.below hbW).below hX) ((hh'.below hbW).below hX) ((hX.cell (World.block_lt_of_cell? _ _ hcW)).trans hcW) (fun x W => by go_simp))
  have HBW : Hid (Below w.heap.size w W) := hbW
  have HCW : Hid (W.cell? ⟨B, 0, none⟩ = some h'.v) := hcW
  unfold Hd.v at CK CK' CM HCW hW ⊢
  clear hh hh' hbW hcW
  rcases hE with ⟨h1, h2⟩ | ⟨h1, h2, h3⟩ | ⟨h1, h2, h3, rfl⟩
  · have hne : (E != 0) = true := by simpa using h2
    rw [h1] at CK
    clear h1 h2
    go_enter Try.func48, Try.ntmps48
    go_wp2_with (first
      | (go_at_call 114; (with_reducible refine (CK.out _ (Below.refl _ _)).mono ?_); rintro e w1 ⟨rfl, k1, rfl⟩)
      | fail)
    go_ret2
    exact ⟨rfl, below_drewN HBW.out _⟩
  · have hne : (E != 0) = true := by simpa using h3
    rw [h1] at CK
    rw [h2] at CK'
    clear h1 h2 h3
    go_enter Try.func48, Try.ntmps48
    go_wp2_with (first
      | (go_at_call 114; (with_reducible refine (CK.out _ (Below.refl _ _)).mono ?_); rintro e w1 ⟨rfl, k1, rfl⟩; have c1 : (W.drewN k1).cell? ⟨B, 0, none⟩ = some (.slice h'.A h'.Z.length h'.C) := HCW.out)
      | (go_at_call 114; (with_reducible refine (CK'.out _ (below_dr _ _ _)).mono ?_); rintro e w2 ⟨rfl, k2, rfl⟩)
      | fail)
    go_ret2
    exact ⟨rfl, below_drewN HBW.out _⟩
  · rw [h1] at CK
    rw [h2] at CK'
    rw [h3] at CM
    clear h1 h2 h3
    go_enter Try.func48, Try.ntmps48
    go_wp2_with (first
      | (go_at_call 114; (with_reducible refine (CK.out _ (Below.refl _ _)).mono ?_); rintro e w1 ⟨rfl, k1, rfl⟩; have c1 : (W.drewN k1).cell? ⟨B, 0, none⟩ = some (.slice h'.A h'.Z.length h'.C) := HCW.out)
      | (go_at_call 114; (with_reducible refine (CK'.out _ (below_dr _ _ _)).mono ?_); rintro e w2 ⟨rfl, k2, rfl⟩)
      | (go_at_call 51; (with_reducible refine (CM.out _ (below_dr _ _ _)).mono ?_); rintro e w3 ⟨rfl, k3, rfl⟩)
      | fail)
    go_ret2
    exact ⟨rfl, below_drewN HBW.out _⟩
theorem meetB_symm (Y Z : List Nat) : meetB Y Z = meetB Z Y := by
  have key : ∀ Y Z : List Nat, meetB Y Z = true → meetB Z Y = true := by
    intro Y Z h
    unfold meetB at h ⊢
    rw [List.any_eq_true] at h ⊢
    obtain ⟨y, h1, h2⟩ := h
    exact ⟨y, by simpa using h2, by simpa using h1⟩
  cases h1 : meetB Y Z <;> cases h2 : meetB Z Y
  · rfl
  · rw [key _ _ h2] at h1; cases h1
  · rw [key _ _ h1] at h2; cases h2
  · rfl
end Go.Proofs.Ytgdcmebhopjfaaa
