/- PolySays: the walk, right polynomials, case 4. (Printed by wip/tools/gen_poly.py.) -/
import Derived.Test.YtiljppeamdoocaaPolyL
namespace Go.Proofs.Ytiljppeamdoocaa
open Go.RowKit

set_option maxRecDepth 100000 in
set_option maxHeartbeats 4000000 in
theorem polySays_ok4 (p : Int) (f g : List Int) (ao bo : Option Addr) (nf ng ca cb : Nat) (w : World) (hp : (Lit.int .i64 p).wf = true) (hlf : f.length = nf) (hlg : g.length = ng) (h63 : nf ≤ 9223372036854775807) (h64 : ng ≤ 9223372036854775807) (hca : nf ≤ ca) (hca2 : ca ≤ 9223372036854775807) (hna : ao = none → nf = 0 ∧ ca = 0) (hnb : bo = none → ng = 0 ∧ cb = 0)
    (hF : Hid (Reads w ao (f.map (Value.int .i64)))) (hG : Hid (Reads w bo (g.map (Value.int .i64)))) (hf : polE p f = 0) (hg : polE p g = 0) (q1 : 0 < nf) (q2 : 0 < ng) (q3 : 41 < nf + ng) :
    Calls Try.prog 6 #[.int .i64 p, .slice ao nf ca, .slice bo ng cb] w fun e w' => e = .returned (.bool true) ∧ Below w.heap.size w w' := by
  have OF := polOk_of hf
  have OG := polOk_of hg
  have hl1 := OF.len
  have hl2 := OG.len
  have p1 := OF.p1
  have p2 := OF.p2
  have CA := Lib.hid (poly_Add p f g ao bo nf ng ca cb w hp hlf hlg hF hG hf hg)
  have CM := Lib.hid (fun w' (hb : Below w.heap.size w w') => poly_Mul_big p f g ao bo nf ng ca cb w' hp hlf hlg (hF.out.below hb) (hG.out.below hb) hf hg q1 q2 q3)
  obtain ⟨inv, i1, i2, i3, i4, i5⟩ := inv_of OG (by omega)
  have HD := Lib.hid (divOk_of OF OG (by omega) i4)
  have CD := Lib.hid (fun w' (hb : Below w.heap.size w w') => poly_Div p inv f g ao bo nf ng ca cb w' hp hlf hlg q2 hna (hF.out.below hb) (hG.out.below hb) hf hg i1)
  have CR := Lib.hid (fun w' (hb : Below w.heap.size w w') => ref_Remain p inv f g nf ng ao bo ca cb w' p2 i2 i3 HD.out OF.trm hlf hlg (by omega) (by omega) hca hca2 hna (hF.out.below hb) (hG.out.below hb))
  have CFd := Lib.hid (fun w' => poly_Field p w' hp)
  have CFe := Lib.hid (fun w' => ref_FieldErr p w' hp)
  have CC := Lib.hid (fun w' (hb : Below w.heap.size w w') => poly_Check p f ao nf ca w' hp hlf h63 (hF.out.below hb))
  have CE := Lib.hid (fun w' (hb : Below w.heap.size w w') => ref_PolyErr p f ao nf ca w' hp hlf h63 (hF.out.below hb))
  have CG := Lib.hid (fun w' (hb : Below w.heap.size w w') => ref_PolyErr p g bo ng cb w' hp hlg h64 (hG.out.below hb))
  have CP : Hid (∀ w', Below w.heap.size w w' → Calls Try.prog 42 #[.int .i64 p, .slice ao nf ca, .int .i64 1, .slice bo ng cb, .int .i64 0] w' (PolPost w'.heap.size p (fun k => co f k + 1 * sh g 0 k) w')) :=
    fun w' hb => ref_Plus p f 1 g 0 nf ng ao bo ca cb w' p1 p2 (by omega) (by omega) hlf hlg (by omega) (by omega) (by omega) OF.inF OG.inF hna (hF.out.below hb) (hG.out.below hb)
  have CX := Lib.hid (fun w' (hb : Below w.heap.size w w') => ref_Product p f g nf ng ao bo ca cb w' p1 p2 hlf hlg (by omega) (by omega) OF.inF OG.inF (hF.out.below hb) (hG.out.below hb))
  rw [hf] at CC CE
  rw [hg] at CG
  obtain ⟨d, hd⟩ : ∃ d, fldE p = d := ⟨_, rfl⟩
  rw [hd] at CFd CFe
  have HOF := Lib.hid OF
  have hnf40 : nf ≤ 40 := by omega
  have hng40 : ng ≤ 40 := by omega
  have HLF := Lib.hid hlf
  have HLG := Lib.hid hlg
  have d1 : decide ((0 : Int) < nf) = true := by simp; omega
  have d2 : decide ((0 : Int) < ng) = true := by simp; omega
  have d5 : ((ng : Int) == 0) = false := by simp; omega
  have ws : IntKind.i64.wrap ((nf : Int) + ng) = (nf : Int) + ng := IntWalk.i64_in _ (by omega)
  have d3 : decide ((41 : Int) < (nf : Int) + ng) = true := by simp; omega
  clear hf hg hd OF OG hlf hlg hna hnb hp i1 i4 i5
  go_enter Try.func6, Try.ntmps6
  go_wp2_with (first | (go_at_call 34; have X := CA.out; (with_reducible refine X.mono ?_); rintro e w1 ⟨hA, vA, pA, hb1, rfl, oA⟩; obtain ⟨aA, cA, rfl, rA, nA, kA1, kA2⟩ := own_data oA) | (go_at_call 35; have X := CM.out _ hb1; (with_reducible refine X.mono ?_); rintro e w2 ⟨rfl, s2⟩; have hb2 := hb1.trans (s2.mono hb1.size)) | (go_at_call 36; have X := CD.out _ hb2; (with_reducible refine X.mono ?_); rintro e w3 ⟨q, r, vq, vr, hq, hr, s3, rfl, oQ, oR⟩; obtain ⟨aQ, cQ, rfl, rQ, nQ, kQ1, kQ2⟩ := own_data oQ; obtain ⟨aR, cR, rfl, rR, nR, kR1, kR2⟩ := own_data oR; have hb3 := hb2.trans (s3.mono hb2.size)) | (go_at_call 37; (with_reducible refine (CFd.out _).mono ?_); rintro e w' ⟨rfl, rfl⟩) | (go_at_call 38; (with_reducible refine (CFe.out _).mono ?_); rintro e w' ⟨rfl, rfl⟩) | (go_at_call 39; have X := CC.out _ hb3; (with_reducible refine X.mono ?_); rintro e w4 ⟨rfl, s4⟩; have hb4 := hb3.trans (s4.mono hb3.size)) | (go_at_call 40; have X := CE.out _ hb4; (with_reducible refine X.mono ?_); rintro e w5 ⟨rfl, s5⟩; have hb5 := hb4.trans (s5.mono hb4.size)) | (go_at_call 40; have X := CE.out _ hb5; (with_reducible refine X.mono ?_); rintro e w6 ⟨rfl, s6⟩; have hb6 := hb5.trans (s6.mono hb5.size)) | (go_at_call 40; have X := CG.out _ hb6; (with_reducible refine X.mono ?_); rintro e w7 ⟨rfl, s7⟩; have hb7 := hb6.trans (s7.mono hb6.size)) | (go_at_call 42; have X := CP.out _ hb7; (with_reducible refine X.mono ?_); rintro e w8 ⟨hP, pP, vP, rfl, oP, s8⟩; obtain ⟨aP, cP, rfl, rP, nP, kP1, kP2⟩ := own_data oP; have hb8 := hb7.trans (s8.mono hb7.size)) | (go_at_call 41; have X := same_int hA hP aA aP cA cP _ (by omega) (by omega) (((((((rA.below s2).below s3).below s4).below s5).below s6).below s7).below s8) rP (add_same pA pP); (with_reducible refine X.mono ?_); rintro e w' ⟨rfl, n8, rfl⟩; have hb8d := below_drewN hb8 n8) | (go_at_call 44; have X := CR.out _ hb8d; (with_reducible refine X.mono ?_); rintro e w10 ⟨hZ, tZ, cZ, lZ, vZ, rfl, oZ, s10⟩; obtain ⟨aZ, cZZ, rfl, rZ, nZ, kZ1, kZ2⟩ := own_data oZ; have hb10 := hb8d.trans (s10.mono hb8d.size); have hrz : Hid (r = hZ) := trm_ext hr.1 tZ fun k => by rw [hr.2, cZ]) | (go_at_call 41; have X := same_int r hZ aR aZ cR cZZ _ (by omega) (by omega) (((((((rR.below s4).below s5).below s6).below s7).below s8).drew n8).below s10) rZ hrz.out; (with_reducible refine X.mono ?_); rintro e w' ⟨rfl, n10, rfl⟩; have hb10d := below_drewN hb10 n10; have dlt : r.length < ng := (by rw [hrz.out]; have h1 := HLG.out; omega)) | (go_at_call 43; have hql : q.length ≤ 41 := (by have h1 := quo_len hq.1 hq.2; unfold KOf at h1; have h2 := HLF.out; omega); have X := ref_Product p q g q.length ng aQ bo cQ cb _ p1 p2 rfl HLG.out (by omega) (by omega) (quo_inF HD.out hq.2) HD.out.hg ((((((((rQ.below s4).below s5).below s6).below s7).below s8).drew n8).below s10).drew n10) (hG.out.below hb10d); (with_reducible refine X.mono ?_); rintro e w11 ⟨hY, pY, vY, rfl, oY, s11⟩; obtain ⟨aY, cY, rfl, rY, nY, kY1, kY2⟩ := own_data oY; have hb11 := hb10d.trans (s11.mono hb10d.size); have hyl : hY.length ≤ 100 := (pY.len fun k hk => by rw [show conv q g k = 0 from cvn_top q g _ _ (by have h1 := HLG.out; omega), Int.zero_emod])) | (go_at_call 42; have hrl : r.length ≤ 41 := (by rw [hrz.out]; have h1 := HLG.out; omega); have X : Calls Try.prog 42 #[.int .i64 p, .slice aY hY.length cY, .int .i64 1, .slice aR r.length cR, .int .i64 0] w11 (PolPost w11.heap.size p (fun k => co hY k + 1 * sh r 0 k) w11) := ref_Plus p hY 1 r 0 hY.length r.length aY aR cY cR _ p1 p2 (by omega) (by omega) rfl rfl (by omega) (by omega) (by omega) (pY.inF (by omega)) (rem_inF HD.out hr.2) nY rY (((((((((rR.below s4).below s5).below s6).below s7).below s8).drew n8).below s10).drew n10).below s11); (with_reducible refine X.mono ?_); rintro e w12 ⟨hW, pW, vW, rfl, oW, s12⟩; obtain ⟨aW, cW, rfl, rW, nW, kW1, kW2⟩ := own_data oW; have hb12 := hb11.trans (s12.mono hb11.size)) | (go_at_call 41; have X := same_int hW f aW ao cW ca _ (by omega) (by rw [HLF.out]; omega) rW (hF.out.below hb12) (div_same HD.out HOF.out.trm hq hr pY pW); rw [HLF.out] at X; (with_reducible refine X.mono ?_); rintro e w' ⟨rfl, n12, rfl⟩; have hb12d := below_drewN hb12 n12) | (go_at_call 24; have X := ref_Short q q.length aQ cQ _ _ (by omega) rfl kQ1 kQ2 nQ (((((((((((rQ.below s4).below s5).below s6).below s7).below s8).drew n8).below s10).drew n10).below s11).below s12).drew n12) (Nat.le_refl _); rw [trim_trm hq.1] at X; (with_reducible refine X.mono ?_); rintro e w13 ⟨vS, rfl, oS, t13⟩; obtain ⟨aS, cS, rfl, rS, nS, kS1, kS2⟩ := own_data oS; have hb13 := hb12d.trans (t13.mono hb12d.size); have RQ13 := (((((((((((rQ.below s4).below s5).below s6).below s7).below s8).drew n8).below s10).drew n10).below s11).below s12).drew n12).below t13) | (go_at_call 41; have X := same_int q q aQ aS cQ cS _ (by omega) (by omega) RQ13 rS rfl; (with_reducible refine X.mono ?_); rintro e w' ⟨rfl, n13, rfl⟩; have hb13d := below_drewN hb13 n13))
  go_ret
  exact ⟨by simp, hb13d⟩
end Go.Proofs.Ytiljppeamdoocaa
