/- PolySays: the walk, where a polynomial is wrong. (Printed by wip/tools/gen_poly.py.) -/
import Derived.Test.YtiljppeamdoocaaPolyL
namespace Go.Proofs.Ytiljppeamdoocaa
open Go.RowKit

set_option maxRecDepth 100000 in
set_option maxHeartbeats 4000000 in
theorem polySays_bad1 (p : Int) (f g : List Int) (ao bo : Option Addr) (nf ng ca cb : Nat) (w : World) (hp : (Lit.int .i64 p).wf = true) (hlf : f.length = nf) (hlg : g.length = ng) (h63 : nf ≤ 9223372036854775807) (h64 : ng ≤ 9223372036854775807) (hca : nf ≤ ca) (hca2 : ca ≤ 9223372036854775807) (hna : ao = none → nf = 0 ∧ ca = 0) (hnb : bo = none → ng = 0 ∧ cb = 0)
    (hF : Hid (Reads w ao (f.map (Value.int .i64)))) (hG : Hid (Reads w bo (g.map (Value.int .i64)))) (hc : polE p f ≠ 0) :
    Calls Try.prog 6 #[.int .i64 p, .slice ao nf ca, .slice bo ng cb] w fun e w' => e = .returned (.bool true) ∧ Below w.heap.size w w' := by
  have hk : chkE p f g = polE p f := by unfold chkE; rw [if_neg hc]
  have hkc : chkE p f g ≠ 0 := by rw [hk]; exact hc
  have CA := Lib.hid (poly_Add_bad p f g ao bo nf ng ca cb w hp hlf hlg h63 h64 hF hG hkc)
  have CM := Lib.hid (fun w' (hb : Below w.heap.size w w') => poly_Mul_bad p f g ao bo nf ng ca cb w' hp hlf hlg h63 h64 (hF.out.below hb) (hG.out.below hb) hkc)
  have CD := Lib.hid (fun w' (hb : Below w.heap.size w w') => poly_Div_bad p f g ao bo nf ng ca cb w' hp hlf hlg h63 h64 (hF.out.below hb) (hG.out.below hb) hkc)
  have CFd := Lib.hid (fun w' => poly_Field p w' hp)
  have CFe := Lib.hid (fun w' => ref_FieldErr p w' hp)
  have CC := Lib.hid (fun w' (hb : Below w.heap.size w w') => poly_Check p f ao nf ca w' hp hlf h63 (hF.out.below hb))
  have CE := Lib.hid (fun w' (hb : Below w.heap.size w w') => ref_PolyErr p f ao nf ca w' hp hlf h63 (hF.out.below hb))
  have CG := Lib.hid (fun w' (hb : Below w.heap.size w w') => ref_PolyErr p g bo ng cb w' hp hlg h64 (hG.out.below hb))
  obtain ⟨c, hcc⟩ : ∃ c, polE p f = c := ⟨_, rfl⟩
  rw [hcc] at hk hc
  rw [hk] at CA CM CD
  rw [hcc] at CC CE
  obtain ⟨d, hd⟩ : ∃ d, fldE p = d := ⟨_, rfl⟩
  rw [hd] at CFd CFe
  have hz : (c == 0) = false := by simp [hc]
  have hz2 : (c != 0) = true := by simp [hc]
  clear hk hkc hcc hd hc hp hlf hlg hna hnb
  go_enter Try.func6, Try.ntmps6
  go_wp2_with (first | (go_at_call 34; have X := CA.out; (with_reducible refine X.mono ?_); rintro e w1 ⟨rfl, hb1⟩) | (go_at_call 35; have X := CM.out _ hb1; (with_reducible refine X.mono ?_); rintro e w2 ⟨rfl, s2⟩; have hb2 := hb1.trans (s2.mono hb1.size)) | (go_at_call 36; have X := CD.out _ hb2; (with_reducible refine X.mono ?_); rintro e w3 ⟨rfl, s3⟩; have hb3 := hb2.trans (s3.mono hb2.size)) | (go_at_call 37; (with_reducible refine (CFd.out _).mono ?_); rintro e w' ⟨rfl, rfl⟩) | (go_at_call 38; (with_reducible refine (CFe.out _).mono ?_); rintro e w' ⟨rfl, rfl⟩) | (go_at_call 39; have X := CC.out _ hb3; (with_reducible refine X.mono ?_); rintro e w4 ⟨rfl, s4⟩; have hb4 := hb3.trans (s4.mono hb3.size)) | (go_at_call 40; have X := CE.out _ hb4; (with_reducible refine X.mono ?_); rintro e w5 ⟨rfl, s5⟩; have hb5 := hb4.trans (s5.mono hb4.size)) | (go_at_call 40; have X := CE.out _ hb5; (with_reducible refine X.mono ?_); rintro e w6 ⟨rfl, s6⟩; have hb6 := hb5.trans (s6.mono hb5.size)))
  go_ret
  exact ⟨by simp, hb6⟩
set_option maxRecDepth 100000 in
set_option maxHeartbeats 4000000 in
theorem polySays_bad2 (p : Int) (f g : List Int) (ao bo : Option Addr) (nf ng ca cb : Nat) (w : World) (hp : (Lit.int .i64 p).wf = true) (hlf : f.length = nf) (hlg : g.length = ng) (h63 : nf ≤ 9223372036854775807) (h64 : ng ≤ 9223372036854775807) (hca : nf ≤ ca) (hca2 : ca ≤ 9223372036854775807) (hna : ao = none → nf = 0 ∧ ca = 0) (hnb : bo = none → ng = 0 ∧ cb = 0)
    (hF : Hid (Reads w ao (f.map (Value.int .i64)))) (hG : Hid (Reads w bo (g.map (Value.int .i64)))) (hc0 : polE p f = 0) (hc : polE p g ≠ 0) :
    Calls Try.prog 6 #[.int .i64 p, .slice ao nf ca, .slice bo ng cb] w fun e w' => e = .returned (.bool true) ∧ Below w.heap.size w w' := by
  have hk : chkE p f g = polE p g := by unfold chkE; rw [if_pos hc0]
  have hkc : chkE p f g ≠ 0 := by rw [hk]; exact hc
  have CA := Lib.hid (poly_Add_bad p f g ao bo nf ng ca cb w hp hlf hlg h63 h64 hF hG hkc)
  have CM := Lib.hid (fun w' (hb : Below w.heap.size w w') => poly_Mul_bad p f g ao bo nf ng ca cb w' hp hlf hlg h63 h64 (hF.out.below hb) (hG.out.below hb) hkc)
  have CD := Lib.hid (fun w' (hb : Below w.heap.size w w') => poly_Div_bad p f g ao bo nf ng ca cb w' hp hlf hlg h63 h64 (hF.out.below hb) (hG.out.below hb) hkc)
  have CFd := Lib.hid (fun w' => poly_Field p w' hp)
  have CFe := Lib.hid (fun w' => ref_FieldErr p w' hp)
  have CC := Lib.hid (fun w' (hb : Below w.heap.size w w') => poly_Check p f ao nf ca w' hp hlf h63 (hF.out.below hb))
  have CE := Lib.hid (fun w' (hb : Below w.heap.size w w') => ref_PolyErr p f ao nf ca w' hp hlf h63 (hF.out.below hb))
  have CG := Lib.hid (fun w' (hb : Below w.heap.size w w') => ref_PolyErr p g bo ng cb w' hp hlg h64 (hG.out.below hb))
  obtain ⟨c, hcc⟩ : ∃ c, polE p g = c := ⟨_, rfl⟩
  rw [hcc] at hk hc
  rw [hk] at CA CM CD
  rw [hc0] at CC CE
  rw [hcc] at CG
  obtain ⟨d, hd⟩ : ∃ d, fldE p = d := ⟨_, rfl⟩
  rw [hd] at CFd CFe
  have hz : (c == 0) = false := by simp [hc]
  have hz2 : (c != 0) = true := by simp [hc]
  clear hk hkc hcc hd hc hc0 hp hlf hlg hna hnb
  go_enter Try.func6, Try.ntmps6
  go_wp2_with (first | (go_at_call 34; have X := CA.out; (with_reducible refine X.mono ?_); rintro e w1 ⟨rfl, hb1⟩) | (go_at_call 35; have X := CM.out _ hb1; (with_reducible refine X.mono ?_); rintro e w2 ⟨rfl, s2⟩; have hb2 := hb1.trans (s2.mono hb1.size)) | (go_at_call 36; have X := CD.out _ hb2; (with_reducible refine X.mono ?_); rintro e w3 ⟨rfl, s3⟩; have hb3 := hb2.trans (s3.mono hb2.size)) | (go_at_call 37; (with_reducible refine (CFd.out _).mono ?_); rintro e w' ⟨rfl, rfl⟩) | (go_at_call 38; (with_reducible refine (CFe.out _).mono ?_); rintro e w' ⟨rfl, rfl⟩) | (go_at_call 39; have X := CC.out _ hb3; (with_reducible refine X.mono ?_); rintro e w4 ⟨rfl, s4⟩; have hb4 := hb3.trans (s4.mono hb3.size)) | (go_at_call 40; have X := CE.out _ hb4; (with_reducible refine X.mono ?_); rintro e w5 ⟨rfl, s5⟩; have hb5 := hb4.trans (s5.mono hb4.size)) | (go_at_call 40; have X := CE.out _ hb5; (with_reducible refine X.mono ?_); rintro e w6 ⟨rfl, s6⟩; have hb6 := hb5.trans (s6.mono hb5.size)) | (go_at_call 40; have X := CG.out _ hb6; (with_reducible refine X.mono ?_); rintro e w7 ⟨rfl, s7⟩; have hb7 := hb6.trans (s7.mono hb6.size)))
  go_ret
  exact ⟨by simp, hb7⟩
end Go.Proofs.Ytiljppeamdoocaa
