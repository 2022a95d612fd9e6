/- PolyMore: the walk. -/
import Derived.Test.YtiljppeamdoocaaPolyA
import Derived.Test.YtiljppeamdoocaaPolyB
import Derived.Test.YtiljppeamdoocaaArgs
namespace Go.Proofs.Ytiljppeamdoocaa
open Go.RowKit

theorem ints_B {w : World} {ao : Option Addr} {cap : Nat} {zs : List Int} (h : Reads w ao (zs.map (Value.int .i64))) : IntsB w.heap.size w ao cap zs := by
  rcases Nat.eq_zero_or_pos zs.length with h0 | hne
  · exact .inl (List.eq_nil_of_length_eq_zero h0)
  · obtain ⟨b, o, rfl, hc⟩ := h 0 _ (by rw [List.getElem?_map, List.getElem?_eq_getElem hne]; rfl)
    refine .inr ⟨b, o, rfl, World.block_lt_of_cell? w _ hc, fun j hj => ?_⟩
    obtain ⟨b2, o2, ha, hc2⟩ := h j _ (by rw [List.getElem?_map, List.getElem?_eq_getElem hj]; rfl)
    injection ha with ha
    injection ha with e1 e2
    subst e1 e2
    rw [hc2, List.getElem?_eq_getElem hj]; rfl
set_option maxRecDepth 100000 in
set_option maxHeartbeats 4000000 in
theorem polyMore_walk (p : Int) (ao : Option Addr) (nf ca : Nat) (f : List Int) (bo : Option Addr) (ng cb : Nat) (g : List Int) (x : Int) (w : World) (hp : (Lit.int .i64 p).wf = true) (h1 : IntsIn .i64 w ao nf f ∧ CapOk ao nf ca) (h2 : IntsIn .i64 w bo ng g ∧ CapOk bo ng cb) (hx : (Lit.int .i64 x).wf = true) :
    Calls Try.prog 7 #[.int .i64 p, .slice ao nf ca, .slice bo ng cb, .int .i64 x] w fun e w' => e = .returned (.bool true) ∧ Below w.heap.size w w' := by
  obtain ⟨⟨hlf, h63, _, hF'⟩, hna, hca, hca2⟩ := h1
  obtain ⟨⟨hlg, h64, _, hG'⟩, hnb, hcb, hcb2⟩ := h2
  have hF := Lib.hid hF'
  have hG := Lib.hid hG'
  have CE := Lib.hid (fun w' (hb : Below w.heap.size w w') => ref_PolyErr p f ao nf ca w' hp hlf h63 (hF.out.below hb))
  have CG := Lib.hid (fun w' (hb : Below w.heap.size w w') => ref_PolyErr p g bo ng cb w' hp hlg h64 (hG.out.below hb))
  by_cases hf : polE p f = 0
  · have OF := polOk_of hf
    have p1 := OF.p1
    have p2 := OF.p2
    have CA := Lib.hid (fun w' (hb : Below w.heap.size w w') => poly_At p f x ao nf ca w' hp hx hlf (ints_B (hF.out.below hb)) (hF.out.below hb) hf)
    have CV := Lib.hid (fun w' (hb : Below w.heap.size w w') => ref_ValueAt p f x ao nf ca w' p1 p2 hx hlf h63 OF.inF (hF.out.below hb))
    obtain ⟨y, hy⟩ : ∃ y, evp (x % p) f % p = y := ⟨_, rfl⟩
    rw [hy] at CA CV
    rw [hf] at CE
    by_cases hg : polE p g = 0
    · have OG := polOk_of hg
      have l1 := OF.len
      have l2 := OG.len
      have CGc := Lib.hid (poly_Gcd p f g ao bo nf ng ca cb w hp hlf hlg hna hnb hF hG hf hg)
      have CC := Lib.hid (fun w' (hb : Below w.heap.size w w') => ref_Common p ng f g ao bo nf ng ca cb w' (Nat.le_refl _) hlf hlg OF OG hna hnb hca hca2 hcb hcb2 (hF.out.below hb) (hG.out.below hb))
      rw [hg] at CG
      clear hf hg hy hp hx hlf hlg hna hnb OF OG l1 l2 hF' hG'
      go_enter Try.func7, Try.ntmps7
      go_wp2_with (first | (go_at_call 45; refine CGc.out.mono ?_; rintro e w1 ⟨m, v, hm, hb1, rfl, oM⟩; obtain ⟨aM, cM, rfl, rM, nM, kM1, kM2⟩ := own_data oM) | (go_at_call 21; refine (CA.out _ hb1).mono ?_; rintro e w2 ⟨rfl, s2⟩; have hb2 := hb1.trans (s2.mono hb1.size)) | (go_at_call 40; have X := CE.out _ hb2; (with_reducible refine X.mono ?_); rintro e w3 ⟨rfl, s3⟩; have hb3 := hb2.trans (s3.mono hb2.size)) | (go_at_call 46; refine (CV.out _ hb3).mono ?_; rintro e w' ⟨rfl, n3, rfl⟩; have hb3d := below_drewN hb3 n3) | (go_at_call 40; have X := CG.out _ hb3d; (with_reducible refine X.mono ?_); rintro e w4 ⟨rfl, s4⟩; have hb4 := hb3d.trans (s4.mono hb3d.size)) | (go_at_call 47; refine (CC.out _ hb4).mono ?_; rintro e w5 ⟨m2, hm2, v2, rfl, oN, s5⟩; obtain ⟨aN, cN, rfl, rN, nN, kN1, kN2⟩ := own_data oN; have hb5 := hb4.trans (s5.mono hb4.size)) | (go_at_call 41; have X := same_int m m2 aM aN cM cN _ (by omega) (by omega) (((((rM.below s2).below s3).drew n3).below s4).below s5) rN (hm.uniq hm2); (with_reducible refine X.mono ?_); rintro e w' ⟨rfl, n6, rfl⟩; have hb6 := below_drewN hb5 n6))
      go_ret
      exact ⟨by simp, hb6⟩
    · have hk : chkE p f g = polE p g := by unfold chkE; rw [if_pos hf]
      have CGc := Lib.hid (poly_Gcd_bad p f g ao bo nf ng ca cb w hp hlf hlg h63 h64 hF hG (by rw [hk]; exact hg))
      obtain ⟨c, hcc⟩ : ∃ c, polE p g = c := ⟨_, rfl⟩
      rw [hk, hcc] at CGc
      rw [hcc] at CG hg
      have hz2 : (c != 0) = true := by simp [hg]
      clear hf hg hcc hk hy hp hx hlf hlg hna hnb OF hF' hG'
      go_enter Try.func7, Try.ntmps7
      go_wp2_with (first | (go_at_call 45; refine CGc.out.mono ?_; rintro e w1 ⟨rfl, hb1⟩) | (go_at_call 21; refine (CA.out _ hb1).mono ?_; rintro e w2 ⟨rfl, s2⟩; have hb2 := hb1.trans (s2.mono hb1.size)) | (go_at_call 40; have X := CE.out _ hb2; (with_reducible refine X.mono ?_); rintro e w3 ⟨rfl, s3⟩; have hb3 := hb2.trans (s3.mono hb2.size)) | (go_at_call 46; refine (CV.out _ hb3).mono ?_; rintro e w' ⟨rfl, n3, rfl⟩; have hb3d := below_drewN hb3 n3) | (go_at_call 40; have X := CG.out _ hb3d; (with_reducible refine X.mono ?_); rintro e w4 ⟨rfl, s4⟩; have hb4 := hb3d.trans (s4.mono hb3d.size)))
      go_ret
      exact ⟨by simp, hb4⟩
  · have hk : chkE p f g = polE p f := by unfold chkE; rw [if_neg hf]
    have CGc := Lib.hid (poly_Gcd_bad p f g ao bo nf ng ca cb w hp hlf hlg h63 h64 hF hG (by rw [hk]; exact hf))
    have CA := Lib.hid (fun w' (hb : Below w.heap.size w w') => poly_At_bad p f x ao nf ca w' hp hlf h63 (hF.out.below hb) hf)
    obtain ⟨c, hcc⟩ : ∃ c, polE p f = c := ⟨_, rfl⟩
    rw [hk, hcc] at CGc
    rw [hcc] at CE CA hf
    have hz2 : (c != 0) = true := by simp [hf]
    clear hf hcc hk hp hx hlf hlg hna hnb hF' hG'
    go_enter Try.func7, Try.ntmps7
    go_wp2_with (first | (go_at_call 45; refine CGc.out.mono ?_; rintro e w1 ⟨rfl, hb1⟩) | (go_at_call 21; refine (CA.out _ hb1).mono ?_; rintro e w2 ⟨rfl, s2⟩; have hb2 := hb1.trans (s2.mono hb1.size)) | (go_at_call 40; have X := CE.out _ hb2; (with_reducible refine X.mono ?_); rintro e w3 ⟨rfl, s3⟩; have hb3 := hb2.trans (s3.mono hb2.size)))
    go_ret
    exact ⟨by simp, hb3⟩
end Go.Proofs.Ytiljppeamdoocaa
