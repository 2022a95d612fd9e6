/- matrix.Rank and matrix.Det. -/
import Derived.Test.YtgdcmebhopjfaaaMatrix3
namespace Go.Proofs.Ytgdcmebhopjfaaa
open Go.RowKit

/-- A number and an error. -/
def NumPost (v : Value) (E : Int) (w : World) (e : Ending) (w' : World) : Prop := e = .returned (.tuple #[v, .int .i64 E]) ∧ Below w.heap.size w w'
theorem matrix_Rank_bad (T : List Hd) (n : Nat) (ao : Option Addr) (ca : Nat) (w : World) (hT : TabIn w ao n T) (hE : tabE (zof T) ≠ 0) :
    Calls Try.prog 35 #[.slice ao n ca] w (NumPost (.int .i64 0) (tabE (zof T)) w) := by
  have CK := Lib.hid (matrix_Check T n ao ca w hT)
  obtain ⟨E, hEq⟩ : ∃ E, tabE (zof T) = E := ⟨_, rfl⟩
  rw [hEq] at CK hE ⊢
  have hne : (E != 0) = true := bne_iff_ne.2 hE
  clear hT hEq hE
  go_enter Try.func35, Try.ntmps35
  go_wp2_with (first | (go_at_call 38; (with_reducible refine CK.out.mono ?_); rintro e w1 ⟨rfl, b1⟩) | fail)
  go_ret2
  exact ⟨rfl, b1⟩
theorem matrix_Det_bad (T : List Hd) (n : Nat) (ao : Option Addr) (ca : Nat) (w : World) (hT : TabIn w ao n T) (hE : tabE (zof T) ≠ 0) :
    Calls Try.prog 36 #[.slice ao n ca] w (NumPost (.int .u8 0) (tabE (zof T)) w) := by
  have CK := Lib.hid (matrix_Check T n ao ca w hT)
  obtain ⟨E, hEq⟩ : ∃ E, tabE (zof T) = E := ⟨_, rfl⟩
  rw [hEq] at CK hE ⊢
  have hne : (E != 0) = true := bne_iff_ne.2 hE
  clear hT hEq hE
  go_enter Try.func36, Try.ntmps36
  go_wp2_with (first | (go_at_call 38; (with_reducible refine CK.out.mono ?_); rintro e w1 ⟨rfl, b1⟩) | fail)
  go_ret2
  exact ⟨rfl, b1⟩
set_option maxRecDepth 20000 in
theorem matrix_Rank (T : List Hd) (n C : Nat) (ao : Option Addr) (ca : Nat) (w : World) (hT : TabIn w ao n T) (hE : tabE (zof T) = 0) (oT : TabOk (zof T) n C) :
    Calls Try.prog 35 #[.slice ao n ca] w (NumPost (.int .i64 (rkG n (matM (zof T)) C)) 0 w) := by
  have CK := Lib.hid (matrix_Check T n ao ca w hT)
  rw [hE] at CK
  have CR := Lib.hid (fun X (hX : Below w.heap.size w X) => matrix_reduced T n C C ao ca X (hT.below hX) oT (Nat.le_refl _))
  obtain ⟨b0, o0, rfl, FT⟩ := hT.fix oT
  obtain ⟨b1, o1, c1, k1, k2, hF⟩ := FT 0 oT.r1
  have HF := Lib.hid (fun X hX => (hF X hX).1)
  simp only [Nat.add_zero] at HF
  have r1 := oT.r1
  have z1 : (0 : Int) < (n : Int) := by omega
  clear hT hE FT hF oT
  go_enter Try.func35, Try.ntmps35
  go_wp2_with (first
    | (go_at_call 38; (with_reducible refine CK.out.mono ?_); rintro e w1 ⟨rfl, b1⟩; have x1 := HF.out w1 b1)
    | (go_at_call 105; (with_reducible refine (CR.out _ b1).mono ?_); rintro e w2 ⟨G, K, gs, cs, M, vp, r, p, det, rfl, hW, hR, hS, hK, hD, b2⟩; obtain ⟨ap, cp, rfl, _, _, _, _⟩ := own_dataK hW.piv; have HK := Lib.hid hK; clear hK hW hR hS hD)
    | fail)
  go_ret2
  exact ⟨by rw [HK.out]; rfl, b1.trans (b2.mono b1.size)⟩
set_option maxRecDepth 20000 in
theorem matrix_Det_form (T : List Hd) (n C : Nat) (ao : Option Addr) (ca : Nat) (w : World) (hT : TabIn w ao n T) (hE : tabE (zof T) = 0) (oT : TabOk (zof T) n C) (hne : n ≠ C) :
    Calls Try.prog 36 #[.slice ao n ca] w (NumPost (.int .u8 0) 3 w) := by
  have CK := Lib.hid (matrix_Check T n ao ca w hT)
  rw [hE] at CK
  obtain ⟨b0, o0, rfl, FT⟩ := hT.fix oT
  obtain ⟨b1, o1, c1, k1, k2, hF⟩ := FT 0 oT.r1
  have HF := Lib.hid (fun X hX => (hF X hX).1)
  simp only [Nat.add_zero] at HF
  have r1 := oT.r1
  have z1 : (0 : Int) < (n : Int) := by omega
  have z2 : ((n : Int) != (C : Int)) = true := by simp; omega
  clear hT hE FT hF oT hne
  go_enter Try.func36, Try.ntmps36
  go_wp2_with (first
    | (go_at_call 38; (with_reducible refine CK.out.mono ?_); rintro e w1 ⟨rfl, b1⟩; have x1 := HF.out w1 b1)
    | fail)
  go_ret2
  exact ⟨rfl, b1⟩
/-- What the pivots of a square table tell of its determinant. -/
theorem det_of {n r : Nat} {A M : Mt} {p : Nat → Nat} {det : GF} (hR : Red n M r p n) (hD : det * detG n M = detG n A) : (r < n → detG n A = 0) ∧ (r = n → det = detG n A) := by
  constructor
  · intro h
    rw [← hD, detG_nought (i := r) h fun j hj => hR.low r (Nat.le_refl r) h j hj, g_mul_zero]
  · intro h
    subst h
    rw [← hD, detG_unit hR.unit, g_mul_one]
set_option maxRecDepth 20000 in
theorem matrix_Det (T : List Hd) (n : Nat) (ao : Option Addr) (ca : Nat) (w : World) (hT : TabIn w ao n T) (hE : tabE (zof T) = 0) (oT : TabOk (zof T) n n) :
    Calls Try.prog 36 #[.slice ao n ca] w (NumPost (.int .u8 (detG n (matM (zof T))).val) 0 w) := by
  have CK := Lib.hid (matrix_Check T n ao ca w hT)
  rw [hE] at CK
  have CR := Lib.hid (fun X (hX : Below w.heap.size w X) => matrix_reduced T n n n ao ca X (hT.below hX) oT (Nat.le_refl _))
  obtain ⟨b0, o0, rfl, FT⟩ := hT.fix oT
  obtain ⟨b1, o1, c1, k1, k2, hF⟩ := FT 0 oT.r1
  have HF := Lib.hid (fun X hX => (hF X hX).1)
  simp only [Nat.add_zero] at HF
  have r1 := oT.r1
  have z1 : (0 : Int) < (n : Int) := by omega
  have z2 : ((n : Int) != (n : Int)) = false := by simp
  clear hT hE FT hF oT
  go_enter Try.func36, Try.ntmps36
  go_wp2_with (first
    | (go_at_call 38; (with_reducible refine CK.out.mono ?_); rintro e w1 ⟨rfl, b1⟩; have x1 := HF.out w1 b1)
    | (go_at_call 105; (with_reducible refine (CR.out _ b1).mono ?_); rintro e w2 ⟨G, K, gs, cs, M, vp, r, p, det, rfl, hW, hR, hS, hK, hD, b2⟩; obtain ⟨ap, cp, rfl, _, _, _, _⟩ := own_dataK hW.piv; have HDE := Lib.hid (det_of hR hD); have hrn := hR.rR; clear hK hW hR hS hD)
    | fail)
  all_goals
    go_ret2
    refine ⟨?_, b1.trans (b2.mono b1.size)⟩
    first
      | (rw [(HDE.out).1 (by omega)]; rfl)
      | (rw [← (HDE.out).2 (by omega)]; rfl)
end Go.Proofs.Ytgdcmebhopjfaaa
