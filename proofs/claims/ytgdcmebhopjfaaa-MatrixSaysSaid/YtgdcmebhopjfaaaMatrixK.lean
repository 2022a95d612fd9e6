/- MatrixSays: the law's walk. (Printed by wip/tools/gen_matk.py.) -/
import Derived.Test.YtgdcmebhopjfaaaMatrix5
namespace Go.Proofs.Ytgdcmebhopjfaaa
open Go.RowKit

set_option maxRecDepth 100000 in
set_option maxHeartbeats 8000000 in
theorem matrix_bad (S T : List Hd) (n m C : Nat) (ao bo : Option Addr) (ca cb : Nat) (w : World) (hS : TabIn w ao n S) (hT : TabIn w bo m T) (hE : tabE (zof S) ≠ 0)  :
    Calls Try.prog 6 #[.slice ao n ca, .slice bo m cb] w fun e w' => e = .returned (.bool true) ∧ Below w.heap.size w w' := by
  have CE := Lib.hid (fun X (hX : Below w.heap.size w X) => wholeref_TableErr S n ao ca X (hS.below hX))
  have CK := Lib.hid (fun X (hX : Below w.heap.size w X) => matrix_Check S n ao ca X (hS.below hX))
  have CM := Lib.hid (fun X (hX : Below w.heap.size w X) => matrix_Mul_bad S T n m (tabE (zof S)) ao bo ca cb X (hS.below hX) (hT.below hX) (.inl ⟨rfl, hE⟩))
  have CR := Lib.hid (fun X (hX : Below w.heap.size w X) => matrix_Rank_bad S n ao ca X (hS.below hX) hE)
  have CD := Lib.hid (fun X (hX : Below w.heap.size w X) => matrix_Det_bad S n ao ca X (hS.below hX) hE)
  obtain ⟨E, hEq⟩ : ∃ E, tabE (zof S) = E := ⟨_, rfl⟩
  rw [hEq] at CE CK CM CR CD hE
  have hne : (E != 0) = true := bne_iff_ne.2 hE
  clear hS hT hEq hE
  go_enter Try.func6, Try.ntmps6
  go_wp2_with (first
    | (go_at_call 34; (with_reducible refine (CM.out _ (Below.refl _ _)).mono ?_); rintro e w1 ⟨rfl, b1⟩)
    | (go_at_call 35; (with_reducible refine (CR.out _ b1).mono ?_); rintro e w2 ⟨rfl, b2⟩; have q2 := b1.trans (b2.mono b1.size))
    | (go_at_call 36; (with_reducible refine (CD.out _ q2).mono ?_); rintro e w3 ⟨rfl, b3⟩; have q3 := q2.trans (b3.mono q2.size))
    | (go_at_call 37; (with_reducible refine (CE.out _ q3).mono ?_); rintro e w4 ⟨rfl, b4⟩; have q4 := q3.trans (b4.mono q3.size))
    | (go_at_call 38; (with_reducible refine (CK.out _ q4).mono ?_); rintro e w5 ⟨rfl, b5⟩; have q5 := q4.trans (b5.mono q4.size))
    | fail)
  go_ret
  exact ⟨rfl, q5⟩
set_option maxRecDepth 100000 in
set_option maxHeartbeats 8000000 in
theorem matrix_wide_err (S T : List Hd) (n m C : Nat) (ao bo : Option Addr) (ca cb : Nat) (w : World) (hS : TabIn w ao n S) (hT : TabIn w bo m T) (hE : tabE (zof S) = 0) (oS : TabOk (zof S) n C) (hnC : n ≠ C) (hF : tabE (zof T) ≠ 0) :
    Calls Try.prog 6 #[.slice ao n ca, .slice bo m cb] w fun e w' => e = .returned (.bool true) ∧ Below w.heap.size w w' := by
  have CE := Lib.hid (fun X (hX : Below w.heap.size w X) => wholeref_TableErr S n ao ca X (hS.below hX))
  have CK := Lib.hid (fun X (hX : Below w.heap.size w X) => matrix_Check S n ao ca X (hS.below hX))
  have CM := Lib.hid (fun X (hX : Below w.heap.size w X) => matrix_Mul_bad S T n m (tabE (zof T)) ao bo ca cb X (hS.below hX) (hT.below hX) (.inr (.inl ⟨hE, rfl, hF⟩)))
  have CR := Lib.hid (fun X (hX : Below w.heap.size w X) => matrix_Rank S n C ao ca X (hS.below hX) hE oS)
  have CP := Lib.hid (fun X (hX : Below w.heap.size w X) => ref_TableRank S n C ao ca X (hS.below hX) oS)
  have CD := Lib.hid (fun X (hX : Below w.heap.size w X) => matrix_Det_form S n C ao ca X (hS.below hX) hE oS hnC)
  have CF := Lib.hid (fun X (hX : Below w.heap.size w X) => wholeref_TableErr T m bo cb X (hT.below hX))
  obtain ⟨R, hR⟩ : ∃ R, rkG n (matM (zof S)) C = R := ⟨_, rfl⟩
  rw [hR] at CR CP
  rw [hE] at CE CK
  obtain ⟨F, hFq⟩ : ∃ F, tabE (zof T) = F := ⟨_, rfl⟩
  rw [hFq] at CF CM hF
  have hne : (F != 0) = true := bne_iff_ne.2 hF
  have hne2 : (F == 0) = false := beq_eq_false_iff_ne.2 hF
  clear hFq hF
  obtain ⟨b0, o0, rfl, FS⟩ := hS.fix oS
  have r1 := oS.r1
  obtain ⟨b1, o1, c1, k1, k2, hG⟩ := FS 0 r1
  have HF := Lib.hid (fun X hX => (hG X hX).1)
  simp only [Nat.add_zero] at HF
  have z1 : (0 : Int) < (n : Int) := by omega
  have z2 : ((n : Int) != (C : Int)) = true := by simp; omega
  clear hS hT FS hG oS hR hE hnC
  go_enter Try.func6, Try.ntmps6
  go_wp2_with (first
    | (go_at_call 34; (with_reducible refine (CM.out _ (Below.refl _ _)).mono ?_); rintro e w1 ⟨rfl, b1⟩; have x1 := HF.out w1 b1)
    | (go_at_call 35; (with_reducible refine (CR.out _ b1).mono ?_); rintro e w2 ⟨rfl, b2⟩; have q2 := b1.trans (b2.mono b1.size); have x2 := HF.out w2 q2)
    | (go_at_call 36; (with_reducible refine (CD.out _ q2).mono ?_); rintro e w3 ⟨rfl, b3⟩; have q3 := q2.trans (b3.mono q2.size); have x3 := HF.out w3 q3)
    | (go_at_call 37; (with_reducible refine (CE.out _ q3).mono ?_); rintro e w4 ⟨rfl, b4⟩; have q4 := q3.trans (b4.mono q3.size); have x4 := HF.out w4 q4)
    | (go_at_call 38; (with_reducible refine (CK.out _ q4).mono ?_); rintro e w5 ⟨rfl, b5⟩; have q5 := q4.trans (b5.mono q4.size); have x5 := HF.out w5 q5)
    | (go_at_call 39; (with_reducible refine (CP.out _ q5).mono ?_); rintro e w6 ⟨rfl, b6⟩; have q6 := q5.trans (b6.mono q5.size); have x6 := HF.out w6 q6)
    | (go_at_call 37; (with_reducible refine (CF.out _ q6).mono ?_); rintro e w8 ⟨rfl, b8⟩; have q8 := q6.trans (b8.mono q6.size); have x8 := HF.out w8 q8)
    | fail)
  go_ret
  exact ⟨rfl, q8⟩
set_option maxRecDepth 100000 in
set_option maxHeartbeats 8000000 in
theorem matrix_wide_form (S T : List Hd) (n m C : Nat) (ao bo : Option Addr) (ca cb : Nat) (w : World) (hS : TabIn w ao n S) (hT : TabIn w bo m T) (hE : tabE (zof S) = 0) (oS : TabOk (zof S) n C) (hnC : n ≠ C) (hF : tabE (zof T) = 0) (hmC : m ≠ C) :
    Calls Try.prog 6 #[.slice ao n ca, .slice bo m cb] w fun e w' => e = .returned (.bool true) ∧ Below w.heap.size w w' := by
  have CE := Lib.hid (fun X (hX : Below w.heap.size w X) => wholeref_TableErr S n ao ca X (hS.below hX))
  have CK := Lib.hid (fun X (hX : Below w.heap.size w X) => matrix_Check S n ao ca X (hS.below hX))
  have CM := Lib.hid (fun X (hX : Below w.heap.size w X) => matrix_Mul_bad S T n m 3 ao bo ca cb X (hS.below hX) (hT.below hX) (.inr (.inr ⟨hE, hF, C, oS, hmC, rfl⟩)))
  have CR := Lib.hid (fun X (hX : Below w.heap.size w X) => matrix_Rank S n C ao ca X (hS.below hX) hE oS)
  have CP := Lib.hid (fun X (hX : Below w.heap.size w X) => ref_TableRank S n C ao ca X (hS.below hX) oS)
  have CD := Lib.hid (fun X (hX : Below w.heap.size w X) => matrix_Det_form S n C ao ca X (hS.below hX) hE oS hnC)
  have CF := Lib.hid (fun X (hX : Below w.heap.size w X) => wholeref_TableErr T m bo cb X (hT.below hX))
  obtain ⟨R, hR⟩ : ∃ R, rkG n (matM (zof S)) C = R := ⟨_, rfl⟩
  rw [hR] at CR CP
  rw [hE] at CE CK
  rw [hF] at CF
  obtain ⟨b0, o0, rfl, FS⟩ := hS.fix oS
  have r1 := oS.r1
  obtain ⟨b1, o1, c1, k1, k2, hG⟩ := FS 0 r1
  have HF := Lib.hid (fun X hX => (hG X hX).1)
  simp only [Nat.add_zero] at HF
  have z1 : (0 : Int) < (n : Int) := by omega
  have z2 : ((n : Int) != (C : Int)) = true := by simp; omega
  have z3 : ((C : Int) != (m : Int)) = true := by simp; omega
  clear hS hT FS hG oS hR hE hnC hmC hF
  go_enter Try.func6, Try.ntmps6
  go_wp2_with (first
    | (go_at_call 34; (with_reducible refine (CM.out _ (Below.refl _ _)).mono ?_); rintro e w1 ⟨rfl, b1⟩; have x1 := HF.out w1 b1)
    | (go_at_call 35; (with_reducible refine (CR.out _ b1).mono ?_); rintro e w2 ⟨rfl, b2⟩; have q2 := b1.trans (b2.mono b1.size); have x2 := HF.out w2 q2)
    | (go_at_call 36; (with_reducible refine (CD.out _ q2).mono ?_); rintro e w3 ⟨rfl, b3⟩; have q3 := q2.trans (b3.mono q2.size); have x3 := HF.out w3 q3)
    | (go_at_call 37; (with_reducible refine (CE.out _ q3).mono ?_); rintro e w4 ⟨rfl, b4⟩; have q4 := q3.trans (b4.mono q3.size); have x4 := HF.out w4 q4)
    | (go_at_call 38; (with_reducible refine (CK.out _ q4).mono ?_); rintro e w5 ⟨rfl, b5⟩; have q5 := q4.trans (b5.mono q4.size); have x5 := HF.out w5 q5)
    | (go_at_call 39; (with_reducible refine (CP.out _ q5).mono ?_); rintro e w6 ⟨rfl, b6⟩; have q6 := q5.trans (b6.mono q5.size); have x6 := HF.out w6 q6)
    | (go_at_call 37; (with_reducible refine (CF.out _ q6).mono ?_); rintro e w8 ⟨rfl, b8⟩; have q8 := q6.trans (b8.mono q6.size); have x8 := HF.out w8 q8)
    | fail)
  go_ret
  exact ⟨rfl, q8⟩
set_option maxRecDepth 100000 in
set_option maxHeartbeats 8000000 in
theorem matrix_wide_ok (S T : List Hd) (n m C : Nat) (ao bo : Option Addr) (ca cb : Nat) (w : World) (hS : TabIn w ao n S) (hT : TabIn w bo m T) (hE : tabE (zof S) = 0) (oS : TabOk (zof S) n C) (hnC : n ≠ C) (hF : tabE (zof T) = 0) (hmC : m = C) (c : Nat) (oT : TabOk (zof T) m c) :
    Calls Try.prog 6 #[.slice ao n ca, .slice bo m cb] w fun e w' => e = .returned (.bool true) ∧ Below w.heap.size w w' := by
  subst hmC
  have CE := Lib.hid (fun X (hX : Below w.heap.size w X) => wholeref_TableErr S n ao ca X (hS.below hX))
  have CK := Lib.hid (fun X (hX : Below w.heap.size w X) => matrix_Check S n ao ca X (hS.below hX))
  have CM := Lib.hid (fun X (hX : Below w.heap.size w X) => matrix_Mul S T n m c ao bo ca cb X (hS.below hX) (hT.below hX) hE hF oS oT)
  have CN := Lib.hid (fun X (hX : Below w.heap.size w X) => ref_TableMul S T n m c ao bo ca cb X (hS.below hX) (hT.below hX) oS oT)
  have CS := Lib.hid (fun (S T : List Hd) (a b : Nat) ao bo ca cb X h1 h2 => sameRows_u8 S T a b ao bo ca cb X h1 h2)
  have CR := Lib.hid (fun X (hX : Below w.heap.size w X) => matrix_Rank S n m ao ca X (hS.below hX) hE oS)
  have CP := Lib.hid (fun X (hX : Below w.heap.size w X) => ref_TableRank S n m ao ca X (hS.below hX) oS)
  have CD := Lib.hid (fun X (hX : Below w.heap.size w X) => matrix_Det_form S n m ao ca X (hS.below hX) hE oS hnC)
  have CF := Lib.hid (fun X (hX : Below w.heap.size w X) => wholeref_TableErr T m bo cb X (hT.below hX))
  obtain ⟨R, hR⟩ : ∃ R, rkG n (matM (zof S)) m = R := ⟨_, rfl⟩
  rw [hR] at CR CP
  rw [hE] at CE CK
  rw [hF] at CF
  obtain ⟨b0, o0, rfl, FS⟩ := hS.fix oS
  have r1 := oS.r1
  obtain ⟨b1, o1, c1, k1, k2, hG⟩ := FS 0 r1
  have HF := Lib.hid (fun X hX => (hG X hX).1)
  simp only [Nat.add_zero] at HF
  have z1 : (0 : Int) < (n : Int) := by omega
  have z2 : ((n : Int) != (m : Int)) = true := by simp; omega
  clear hS hT FS hG oS hR hE hnC hF oT
  go_enter Try.func6, Try.ntmps6
  go_wp2_with (first
    | (go_at_call 34; (with_reducible refine (CM.out _ (Below.refl _ _)).mono ?_); rintro e w1 ⟨aM, cM, TM, rfl, tM, zM, b1⟩; have x1 := HF.out w1 b1)
    | (go_at_call 35; (with_reducible refine (CR.out _ b1).mono ?_); rintro e w2 ⟨rfl, b2⟩; have q2 := b1.trans (b2.mono b1.size); have x2 := HF.out w2 q2)
    | (go_at_call 36; (with_reducible refine (CD.out _ q2).mono ?_); rintro e w3 ⟨rfl, b3⟩; have q3 := q2.trans (b3.mono q2.size); have x3 := HF.out w3 q3)
    | (go_at_call 37; (with_reducible refine (CE.out _ q3).mono ?_); rintro e w4 ⟨rfl, b4⟩; have q4 := q3.trans (b4.mono q3.size); have x4 := HF.out w4 q4)
    | (go_at_call 38; (with_reducible refine (CK.out _ q4).mono ?_); rintro e w5 ⟨rfl, b5⟩; have q5 := q4.trans (b5.mono q4.size); have x5 := HF.out w5 q5)
    | (go_at_call 39; (with_reducible refine (CP.out _ q5).mono ?_); rintro e w6 ⟨rfl, b6⟩; have q6 := q5.trans (b6.mono q5.size); have x6 := HF.out w6 q6)
    | (go_at_call 37; (with_reducible refine (CF.out _ q6).mono ?_); rintro e w8 ⟨rfl, b8⟩; have q8 := q6.trans (b8.mono q6.size); have x8 := HF.out w8 q8)
    | (go_at_call 42; (with_reducible refine (CN.out _ q8).mono ?_); rintro e w9 ⟨aN, cN, TN, rfl, tN, zN, b9⟩; have q9 := q8.trans (b9.mono q8.size); have tM9 : TabIn w9 aM _ TM := (((((((tM.below b2).below b3).below b4).below b5).below b6)).below b8).below b9; have hsm : zof TM = zof TN := (by rw [zM, zN]); have CX := CS.out TM TN _ _ aM aN cM cN w9 tM9 tN; rw [decide_eq_true hsm] at CX; have CX := Lib.hid CX; clear hsm tM9 tN zN tM zM)
    | (go_at_call 41; (with_reducible refine CX.out.mono ?_); rintro e w10 ⟨rfl, k10, rfl⟩)
    | fail)
  go_ret
  exact ⟨rfl, (below_drewN q9 _)⟩
set_option maxRecDepth 100000 in
set_option maxHeartbeats 8000000 in
theorem matrix_square_err (S T : List Hd) (n m C : Nat) (ao bo : Option Addr) (ca cb : Nat) (w : World) (hS : TabIn w ao n S) (hT : TabIn w bo m T) (hE : tabE (zof S) = 0) (oS : TabOk (zof S) n C) (hnC : n = C) (hF : tabE (zof T) ≠ 0) :
    Calls Try.prog 6 #[.slice ao n ca, .slice bo m cb] w fun e w' => e = .returned (.bool true) ∧ Below w.heap.size w w' := by
  subst hnC
  have CE := Lib.hid (fun X (hX : Below w.heap.size w X) => wholeref_TableErr S n ao ca X (hS.below hX))
  have CK := Lib.hid (fun X (hX : Below w.heap.size w X) => matrix_Check S n ao ca X (hS.below hX))
  have CM := Lib.hid (fun X (hX : Below w.heap.size w X) => matrix_Mul_bad S T n m (tabE (zof T)) ao bo ca cb X (hS.below hX) (hT.below hX) (.inr (.inl ⟨hE, rfl, hF⟩)))
  have CR := Lib.hid (fun X (hX : Below w.heap.size w X) => matrix_Rank S n n ao ca X (hS.below hX) hE oS)
  have CP := Lib.hid (fun X (hX : Below w.heap.size w X) => ref_TableRank S n n ao ca X (hS.below hX) oS)
  have CD := Lib.hid (fun X (hX : Below w.heap.size w X) => matrix_Det S n ao ca X (hS.below hX) hE oS)
  have CQ := Lib.hid (fun X (hX : Below w.heap.size w X) => ref_TableDet S n ao ca X (hS.below hX) oS)
  have CF := Lib.hid (fun X (hX : Below w.heap.size w X) => wholeref_TableErr T m bo cb X (hT.below hX))
  obtain ⟨R, hR⟩ : ∃ R, rkG n (matM (zof S)) n = R := ⟨_, rfl⟩
  rw [hR] at CR CP
  rw [hE] at CE CK
  obtain ⟨D, hD⟩ : ∃ D, (detG n (matM (zof S))).val = D := ⟨_, rfl⟩
  rw [hD] at CD CQ
  clear hD
  obtain ⟨F, hFq⟩ : ∃ F, tabE (zof T) = F := ⟨_, rfl⟩
  rw [hFq] at CF CM hF
  have hne : (F != 0) = true := bne_iff_ne.2 hF
  have hne2 : (F == 0) = false := beq_eq_false_iff_ne.2 hF
  clear hFq hF
  obtain ⟨b0, o0, rfl, FS⟩ := hS.fix oS
  have r1 := oS.r1
  obtain ⟨b1, o1, c1, k1, k2, hG⟩ := FS 0 r1
  have HF := Lib.hid (fun X hX => (hG X hX).1)
  simp only [Nat.add_zero] at HF
  have z1 : (0 : Int) < (n : Int) := by omega
  clear hS hT FS hG oS hR hE
  go_enter Try.func6, Try.ntmps6
  go_wp2_with (first
    | (go_at_call 34; (with_reducible refine (CM.out _ (Below.refl _ _)).mono ?_); rintro e w1 ⟨rfl, b1⟩; have x1 := HF.out w1 b1)
    | (go_at_call 35; (with_reducible refine (CR.out _ b1).mono ?_); rintro e w2 ⟨rfl, b2⟩; have q2 := b1.trans (b2.mono b1.size); have x2 := HF.out w2 q2)
    | (go_at_call 36; (with_reducible refine (CD.out _ q2).mono ?_); rintro e w3 ⟨rfl, b3⟩; have q3 := q2.trans (b3.mono q2.size); have x3 := HF.out w3 q3)
    | (go_at_call 37; (with_reducible refine (CE.out _ q3).mono ?_); rintro e w4 ⟨rfl, b4⟩; have q4 := q3.trans (b4.mono q3.size); have x4 := HF.out w4 q4)
    | (go_at_call 38; (with_reducible refine (CK.out _ q4).mono ?_); rintro e w5 ⟨rfl, b5⟩; have q5 := q4.trans (b5.mono q4.size); have x5 := HF.out w5 q5)
    | (go_at_call 39; (with_reducible refine (CP.out _ q5).mono ?_); rintro e w6 ⟨rfl, b6⟩; have q6 := q5.trans (b6.mono q5.size); have x6 := HF.out w6 q6)
    | (go_at_call 40; (with_reducible refine (CQ.out _ q6).mono ?_); rintro e w7 ⟨rfl, b7⟩; have q7 := q6.trans (b7.mono q6.size); have x7 := HF.out w7 q7)
    | (go_at_call 37; (with_reducible refine (CF.out _ q7).mono ?_); rintro e w8 ⟨rfl, b8⟩; have q8 := q7.trans (b8.mono q7.size); have x8 := HF.out w8 q8)
    | fail)
  go_ret
  exact ⟨rfl, q8⟩
set_option maxRecDepth 100000 in
set_option maxHeartbeats 8000000 in
theorem matrix_square_form (S T : List Hd) (n m C : Nat) (ao bo : Option Addr) (ca cb : Nat) (w : World) (hS : TabIn w ao n S) (hT : TabIn w bo m T) (hE : tabE (zof S) = 0) (oS : TabOk (zof S) n C) (hnC : n = C) (hF : tabE (zof T) = 0) (hmC : m ≠ C) :
    Calls Try.prog 6 #[.slice ao n ca, .slice bo m cb] w fun e w' => e = .returned (.bool true) ∧ Below w.heap.size w w' := by
  subst hnC
  have CE := Lib.hid (fun X (hX : Below w.heap.size w X) => wholeref_TableErr S n ao ca X (hS.below hX))
  have CK := Lib.hid (fun X (hX : Below w.heap.size w X) => matrix_Check S n ao ca X (hS.below hX))
  have CM := Lib.hid (fun X (hX : Below w.heap.size w X) => matrix_Mul_bad S T n m 3 ao bo ca cb X (hS.below hX) (hT.below hX) (.inr (.inr ⟨hE, hF, n, oS, hmC, rfl⟩)))
  have CR := Lib.hid (fun X (hX : Below w.heap.size w X) => matrix_Rank S n n ao ca X (hS.below hX) hE oS)
  have CP := Lib.hid (fun X (hX : Below w.heap.size w X) => ref_TableRank S n n ao ca X (hS.below hX) oS)
  have CD := Lib.hid (fun X (hX : Below w.heap.size w X) => matrix_Det S n ao ca X (hS.below hX) hE oS)
  have CQ := Lib.hid (fun X (hX : Below w.heap.size w X) => ref_TableDet S n ao ca X (hS.below hX) oS)
  have CF := Lib.hid (fun X (hX : Below w.heap.size w X) => wholeref_TableErr T m bo cb X (hT.below hX))
  obtain ⟨R, hR⟩ : ∃ R, rkG n (matM (zof S)) n = R := ⟨_, rfl⟩
  rw [hR] at CR CP
  rw [hE] at CE CK
  obtain ⟨D, hD⟩ : ∃ D, (detG n (matM (zof S))).val = D := ⟨_, rfl⟩
  rw [hD] at CD CQ
  clear hD
  rw [hF] at CF
  obtain ⟨b0, o0, rfl, FS⟩ := hS.fix oS
  have r1 := oS.r1
  obtain ⟨b1, o1, c1, k1, k2, hG⟩ := FS 0 r1
  have HF := Lib.hid (fun X hX => (hG X hX).1)
  simp only [Nat.add_zero] at HF
  have z1 : (0 : Int) < (n : Int) := by omega
  have z3 : ((n : Int) != (m : Int)) = true := by simp; omega
  clear hS hT FS hG oS hR hE hmC hF
  go_enter Try.func6, Try.ntmps6
  go_wp2_with (first
    | (go_at_call 34; (with_reducible refine (CM.out _ (Below.refl _ _)).mono ?_); rintro e w1 ⟨rfl, b1⟩; have x1 := HF.out w1 b1)
    | (go_at_call 35; (with_reducible refine (CR.out _ b1).mono ?_); rintro e w2 ⟨rfl, b2⟩; have q2 := b1.trans (b2.mono b1.size); have x2 := HF.out w2 q2)
    | (go_at_call 36; (with_reducible refine (CD.out _ q2).mono ?_); rintro e w3 ⟨rfl, b3⟩; have q3 := q2.trans (b3.mono q2.size); have x3 := HF.out w3 q3)
    | (go_at_call 37; (with_reducible refine (CE.out _ q3).mono ?_); rintro e w4 ⟨rfl, b4⟩; have q4 := q3.trans (b4.mono q3.size); have x4 := HF.out w4 q4)
    | (go_at_call 38; (with_reducible refine (CK.out _ q4).mono ?_); rintro e w5 ⟨rfl, b5⟩; have q5 := q4.trans (b5.mono q4.size); have x5 := HF.out w5 q5)
    | (go_at_call 39; (with_reducible refine (CP.out _ q5).mono ?_); rintro e w6 ⟨rfl, b6⟩; have q6 := q5.trans (b6.mono q5.size); have x6 := HF.out w6 q6)
    | (go_at_call 40; (with_reducible refine (CQ.out _ q6).mono ?_); rintro e w7 ⟨rfl, b7⟩; have q7 := q6.trans (b7.mono q6.size); have x7 := HF.out w7 q7)
    | (go_at_call 37; (with_reducible refine (CF.out _ q7).mono ?_); rintro e w8 ⟨rfl, b8⟩; have q8 := q7.trans (b8.mono q7.size); have x8 := HF.out w8 q8)
    | fail)
  go_ret
  exact ⟨rfl, q8⟩
set_option maxRecDepth 100000 in
set_option maxHeartbeats 8000000 in
theorem matrix_square_ok (S T : List Hd) (n m C : Nat) (ao bo : Option Addr) (ca cb : Nat) (w : World) (hS : TabIn w ao n S) (hT : TabIn w bo m T) (hE : tabE (zof S) = 0) (oS : TabOk (zof S) n C) (hnC : n = C) (hF : tabE (zof T) = 0) (hmC : m = C) (c : Nat) (oT : TabOk (zof T) m c) :
    Calls Try.prog 6 #[.slice ao n ca, .slice bo m cb] w fun e w' => e = .returned (.bool true) ∧ Below w.heap.size w w' := by
  subst hnC
  subst hmC
  have CE := Lib.hid (fun X (hX : Below w.heap.size w X) => wholeref_TableErr S m ao ca X (hS.below hX))
  have CK := Lib.hid (fun X (hX : Below w.heap.size w X) => matrix_Check S m ao ca X (hS.below hX))
  have CM := Lib.hid (fun X (hX : Below w.heap.size w X) => matrix_Mul S T m m c ao bo ca cb X (hS.below hX) (hT.below hX) hE hF oS oT)
  have CN := Lib.hid (fun X (hX : Below w.heap.size w X) => ref_TableMul S T m m c ao bo ca cb X (hS.below hX) (hT.below hX) oS oT)
  have CS := Lib.hid (fun (S T : List Hd) (a b : Nat) ao bo ca cb X h1 h2 => sameRows_u8 S T a b ao bo ca cb X h1 h2)
  have CR := Lib.hid (fun X (hX : Below w.heap.size w X) => matrix_Rank S m m ao ca X (hS.below hX) hE oS)
  have CP := Lib.hid (fun X (hX : Below w.heap.size w X) => ref_TableRank S m m ao ca X (hS.below hX) oS)
  have CD := Lib.hid (fun X (hX : Below w.heap.size w X) => matrix_Det S m ao ca X (hS.below hX) hE oS)
  have CQ := Lib.hid (fun X (hX : Below w.heap.size w X) => ref_TableDet S m ao ca X (hS.below hX) oS)
  have CF := Lib.hid (fun X (hX : Below w.heap.size w X) => wholeref_TableErr T m bo cb X (hT.below hX))
  obtain ⟨R, hR⟩ : ∃ R, rkG m (matM (zof S)) m = R := ⟨_, rfl⟩
  rw [hR] at CR CP
  rw [hE] at CE CK
  obtain ⟨D, hD⟩ : ∃ D, (detG m (matM (zof S))).val = D := ⟨_, rfl⟩
  rw [hD] at CD CQ
  clear hD
  rw [hF] at CF
  obtain ⟨b0, o0, rfl, FS⟩ := hS.fix oS
  have r1 := oS.r1
  obtain ⟨b1, o1, c1, k1, k2, hG⟩ := FS 0 r1
  have HF := Lib.hid (fun X hX => (hG X hX).1)
  simp only [Nat.add_zero] at HF
  have z1 : (0 : Int) < (m : Int) := by omega
  clear hS hT FS hG oS hR hE hF oT
  go_enter Try.func6, Try.ntmps6
  go_wp2_with (first
    | (go_at_call 34; (with_reducible refine (CM.out _ (Below.refl _ _)).mono ?_); rintro e w1 ⟨aM, cM, TM, rfl, tM, zM, b1⟩; have x1 := HF.out w1 b1)
    | (go_at_call 35; (with_reducible refine (CR.out _ b1).mono ?_); rintro e w2 ⟨rfl, b2⟩; have q2 := b1.trans (b2.mono b1.size); have x2 := HF.out w2 q2)
    | (go_at_call 36; (with_reducible refine (CD.out _ q2).mono ?_); rintro e w3 ⟨rfl, b3⟩; have q3 := q2.trans (b3.mono q2.size); have x3 := HF.out w3 q3)
    | (go_at_call 37; (with_reducible refine (CE.out _ q3).mono ?_); rintro e w4 ⟨rfl, b4⟩; have q4 := q3.trans (b4.mono q3.size); have x4 := HF.out w4 q4)
    | (go_at_call 38; (with_reducible refine (CK.out _ q4).mono ?_); rintro e w5 ⟨rfl, b5⟩; have q5 := q4.trans (b5.mono q4.size); have x5 := HF.out w5 q5)
    | (go_at_call 39; (with_reducible refine (CP.out _ q5).mono ?_); rintro e w6 ⟨rfl, b6⟩; have q6 := q5.trans (b6.mono q5.size); have x6 := HF.out w6 q6)
    | (go_at_call 40; (with_reducible refine (CQ.out _ q6).mono ?_); rintro e w7 ⟨rfl, b7⟩; have q7 := q6.trans (b7.mono q6.size); have x7 := HF.out w7 q7)
    | (go_at_call 37; (with_reducible refine (CF.out _ q7).mono ?_); rintro e w8 ⟨rfl, b8⟩; have q8 := q7.trans (b8.mono q7.size); have x8 := HF.out w8 q8)
    | (go_at_call 42; (with_reducible refine (CN.out _ q8).mono ?_); rintro e w9 ⟨aN, cN, TN, rfl, tN, zN, b9⟩; have q9 := q8.trans (b9.mono q8.size); have tM9 : TabIn w9 aM _ TM := (((((((tM.below b2).below b3).below b4).below b5).below b6).below b7).below b8).below b9; have hsm : zof TM = zof TN := (by rw [zM, zN]); have CX := CS.out TM TN _ _ aM aN cM cN w9 tM9 tN; rw [decide_eq_true hsm] at CX; have CX := Lib.hid CX; clear hsm tM9 tN zN tM zM)
    | (go_at_call 41; (with_reducible refine CX.out.mono ?_); rintro e w10 ⟨rfl, k10, rfl⟩)
    | fail)
  go_ret
  exact ⟨rfl, (below_drewN q9 _)⟩
end Go.Proofs.Ytgdcmebhopjfaaa
