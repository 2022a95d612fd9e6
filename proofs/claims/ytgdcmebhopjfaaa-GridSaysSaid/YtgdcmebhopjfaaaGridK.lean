/- GridSays: the law's walk. -/
import Derived.Test.YtgdcmebhopjfaaaGrid5
import Derived.Test.YtgdcmebhopjfaaaTabB
namespace Go.Proofs.Ytgdcmebhopjfaaa
open Go.RowKit

theorem unE_lt {l : List Nat} (h : unE l = 0) : 0 < l.length ∧ l.length ≤ 12 := by
  unfold unE at h
  split at h
  · cases h
  · omega
theorem unE_cases (l : List Nat) : unE l = 0 ∨ unE l = 2 ∨ unE l = 6 := by
  unfold unE
  split
  · exact .inr (.inl rfl)
  · split
    · exact .inl rfl
    · exact .inr (.inr rfl)
set_option maxRecDepth 100000 in
set_option maxHeartbeats 4000000 in
theorem grid_bad (h h' : Hd) (m : Int) (w : World) (hm : (Lit.int .i64 m).wf = true) (hh : RowOk w h) (hh' : RowOk w h') (hE : unE h.Z ≠ 0) :
    Calls Try.prog 8 #[h.v, h'.v, .int .i64 m] w fun e w' => e = .returned (.bool true) ∧ Below w.heap.size w w' := by
  obtain ⟨B, hB⟩ : ∃ B, w.heap.size = B := ⟨_, rfl⟩
  obtain ⟨W, hW⟩ : ∃ W, w.alloc (.cells #[h.v] 59) = W := ⟨_, rfl⟩
  have hbW : Below w.heap.size w W := by rw [← hW]; exact (Below.refl _ w).alloc (Nat.le_refl _) _
  have hcW : W.cell? ⟨B, 0, none⟩ = some h.v := by rw [← hW, ← hB]; simp [World.cell?_alloc_new]
  have CP := Lib.hid (fun X (hX : Below W.heap.size W X) => grid_Powers_bad h m X ((hh.below hbW).below hX) hE)
  have CC := Lib.hid (fun X (hX : Below W.heap.size W X) => grid_Crossed_bad h h' (unE h.Z) X ((hh.below hbW).below hX) ((hh'.below hbW).below hX) (.inl ⟨rfl, hE⟩))
  have CU := Lib.hid (fun X (hX : Below W.heap.size W X) => ref_Unlike h X ((hh.below hbW).below hX))
  have HB : Hid (Below w.heap.size w W) := hbW
  have HCB := Lib.hid (fun X (hX : Below W.heap.size W X) => (hX.cell (World.block_lt_of_cell? _ _ hcW)).trans hcW)
  obtain ⟨E, hEq⟩ : ∃ E, unE h.Z = E := ⟨_, rfl⟩
  rw [hEq] at CP CC CU hE
  have hne : (E != 0) = true := by simpa using hE
  unfold Hd.v at CP CC CU HCB hW ⊢
  have c0 := HCB.out W (Below.refl _ _)
  clear hh hh' hbW hcW hEq hE
  go_enter Try.func8, Try.ntmps8
  go_wp2_with (first
    | (go_at_call 47; (with_reducible refine (CP.out _ (Below.refl _ _)).mono ?_); rintro e w1 ⟨rfl, b1⟩; have c1 := HCB.out w1 b1)
    | (go_at_call 48; (with_reducible refine (CC.out _ b1).mono ?_); rintro e w2 ⟨rfl, b2⟩; have b12 := b1.trans (b2.mono b1.size); have c2 := HCB.out w2 b12)
    | (go_at_call 49; (with_reducible refine (CU.out _ b12).mono ?_); rintro e w3 ⟨rfl, b3⟩; have b13 := b12.trans (b3.mono b12.size))
    | fail)
  go_ret
  exact ⟨rfl, HB.out.trans (b13.mono HB.out.size)⟩
end Go.Proofs.Ytgdcmebhopjfaaa
