/- matrix.Mul where it refuses. -/
import Derived.Test.YtgdcmebhopjfaaaMatrix4
import Derived.Test.YtgdcmebhopjfaaaRefMat1
import Derived.Test.YtgdcmebhopjfaaaRefMat2
namespace Go.Proofs.Ytgdcmebhopjfaaa
open Go.RowKit

set_option maxRecDepth 20000 in
theorem matrix_Mul_bad (S T : List Hd) (n m : Nat) (E : Int) (ao bo : Option Addr) (ca cb : Nat) (w : World) (hS : TabIn w ao n S) (hT : TabIn w bo m T)
    (hE : (tabE (zof S) = E ∧ E ≠ 0) ∨ (tabE (zof S) = 0 ∧ tabE (zof T) = E ∧ E ≠ 0) ∨ (tabE (zof S) = 0 ∧ tabE (zof T) = 0 ∧ ∃ C, TabOk (zof S) n C ∧ m ≠ C ∧ E = 3)) :
    Calls Try.prog 34 #[.slice ao n ca, .slice bo m cb] w (TabBad E w) := by
  have CS := Lib.hid (fun X (hX : Below w.heap.size w X) => matrix_Check S n ao ca X (hS.below hX))
  have CT := Lib.hid (fun X (hX : Below w.heap.size w X) => matrix_Check T m bo cb X (hT.below hX))
  rcases hE with ⟨h1, h2⟩ | ⟨h1, h2, h3⟩ | ⟨h1, h2, C, oS, h3, rfl⟩
  · have hne : (E != 0) = true := bne_iff_ne.2 h2
    rw [h1] at CS
    clear h1 h2 hS hT
    go_enter Try.func34, Try.ntmps34
    go_wp2_with (first
      | (go_at_call 38; (with_reducible refine (CS.out _ (Below.refl _ _)).mono ?_); rintro e w1 ⟨rfl, q1⟩)
      | fail)
    go_ret2
    exact ⟨rfl, q1⟩
  · have hne : (E != 0) = true := bne_iff_ne.2 h3
    rw [h1] at CS
    rw [h2] at CT
    clear h1 h2 h3 hS hT
    go_enter Try.func34, Try.ntmps34
    go_wp2_with (first
      | (go_at_call 38; (with_reducible refine (CS.out _ (Below.refl _ _)).mono ?_); rintro e w1 ⟨rfl, q1⟩)
      | (go_at_call 38; (with_reducible refine (CT.out _ q1).mono ?_); rintro e w2 ⟨rfl, q2⟩)
      | fail)
    go_ret2
    exact ⟨rfl, q1.trans (q2.mono q1.size)⟩
  · rw [h1] at CS
    rw [h2] at CT
    obtain ⟨b0, o0, rfl, FS⟩ := hS.fix oS
    have r1 := oS.r1
    obtain ⟨b1, o1, c1, k1, k2, hF⟩ := FS 0 r1
    have HF := Lib.hid (fun X hX => (hF X hX).1)
    simp only [Nat.add_zero] at HF
    have z1 : (0 : Int) < (n : Int) := by omega
    have z2 : ((m : Int) != (C : Int)) = true := by simp; omega
    clear h1 h2 h3 hS hT FS hF oS
    go_enter Try.func34, Try.ntmps34
    go_wp2_with (first
      | (go_at_call 38; (with_reducible refine (CS.out _ (Below.refl _ _)).mono ?_); rintro e w1 ⟨rfl, q1⟩)
      | (go_at_call 38; (with_reducible refine (CT.out _ q1).mono ?_); rintro e w2 ⟨rfl, q2⟩; have q12 := q1.trans (q2.mono q1.size); have x1 := HF.out w2 q12)
      | fail)
    go_ret2
    exact ⟨rfl, q12⟩
end Go.Proofs.Ytgdcmebhopjfaaa
