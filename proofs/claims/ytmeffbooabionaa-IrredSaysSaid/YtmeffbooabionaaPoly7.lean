/- Plus and Product of the reference. -/
import Derived.Test.YtmeffbooabionaaPoly6
import Derived.Test.YtmeffbooabionaaRest
set_option linter.unusedVariables false
set_option linter.unusedSimpArgs false
namespace Go.Proofs.Ytmeffbooabionaa
open Go.RowKit

def plusS (p : Int) (f : List Int) (b : Int) (g : List Int) (high j k : Nat) : Int := if high ≤ k ∧ k < high + j then (co f k + b * co g (k - high)) % p else co f k
theorem plusS_zero (p : Int) (f : List Int) (b : Int) (g : List Int) (high k : Nat) : plusS p f b g high 0 k = co f k := by unfold plusS; rw [if_neg (by omega)]
theorem plusS_step (p : Int) (f : List Int) (b : Int) (g : List Int) (high j k : Nat) : plusS p f b g high (j + 1) k = if k = high + j then (co f (high + j) + b * co g j) % p else plusS p f b g high j k := by
  unfold plusS
  by_cases h : k = high + j
  · subst h; rw [if_pos rfl, if_pos (by omega), Nat.add_sub_cancel_left]
  · rw [if_neg h]
    by_cases h2 : high ≤ k ∧ k < high + j
    · rw [if_pos h2, if_pos (by omega)]
    · rw [if_neg h2, if_neg (by omega)]
theorem plusS_full {p : Int} {f g : List Int} (hf : InF p f) (hp : 0 < p) (b : Int) (high k : Nat) : plusS p f b g high g.length k = (co f k + b * sh g high k) % p := by
  unfold plusS
  by_cases h : high ≤ k ∧ k < high + g.length
  · rw [if_pos h]
    unfold sh
    rw [if_pos h.1]
  · rw [if_neg h]
    have : sh g high k = 0 := by
      rcases Nat.lt_or_ge k high with h2 | h2
      · exact sh_lt g h2
      · exact sh_ge g (by omega)
    rw [this, Int.mul_zero, Int.add_zero, hf.mod hp]
set_option maxRecDepth 100000 in
set_option maxHeartbeats 4000000 in
theorem ref_Plus (p : Int) (f : List Int) (by_ : Int) (g : List Int) (high : Nat) (nf ng : Nat) (ao bo : Option Addr) (ca cb : Nat) (w : World) (hp : 2 ≤ p) (hp2 : p ≤ 997) (hby : -1000000 ≤ by_) (hby2 : by_ ≤ 1000000) (hlf : f.length = nf) (hlg : g.length = ng) (hnf : nf ≤ 1000000) (hng : ng ≤ 1000000) (hhi : high ≤ 1000000)
    (hf : Hid (InF p f)) (hg : Hid (InF p g)) (hnone : ao = none → nf = 0 ∧ ca = 0) (hF : Hid (Reads w ao (f.map (Value.int .i64)))) (hG : Hid (Reads w bo (g.map (Value.int .i64)))) :
    Calls Try.prog 78 #[.int .i64 p, .slice ao nf ca, .int .i64 by_, .slice bo ng cb, .int .i64 high] w (PolPost w.heap.size p (fun k => co f k + by_ * sh g high k) w) := by
  have HLF := Lib.hid hlf
  have HLG := Lib.hid hlg
  have CC := Lib.hid (clone_int f nf ao ca w.heap.size w (by omega) hlf hnone hF (Nat.le_refl _))
  obtain ⟨N, hN⟩ : ∃ N, ng + high = N := ⟨_, rfl⟩
  have hNi : (ng : Int) + high = (N : Int) := by omega
  have wN : IntKind.i64.wrap (N : Int) = N := IntWalk.i64_in _ (by omega)
  have HNe := Lib.hid hN
  have hNb : N ≤ 2000000 := by omega
  clear hlf hlg hnone hN
  go_enter Try.func78, Try.ntmps78
  go_wp2_with (go_at_call 73; refine CC.out.mono ?_; rintro e w1 ⟨v, rfl, hown, hb1⟩)
  have hO0 : Hid (w1.ownsRow w.heap.size 3 1 v nf (rowF nf (iV (co f)))) := by
    show World.ownsRow _ _ _ _ _ _ _
    rw [map_iV, HLF.out] at hown; exact hown
  have HB0 := Lib.hid hb1
  clear hown hb1
  go_loopw [11] (fun vv wr => ∃ m : Nat, nf ≤ m ∧ m ≤ max nf N ∧ Hid (wr.ownsRow w.heap.size 3 1 vv m (rowF m (iV (co f)))) ∧ Hid (Below w.heap.size w wr)) (fun vv _ => match vv with | .slice _ m _ => N - m | _ => 0)
  case atStart => exact ⟨nf, Nat.le_refl _, by omega, hO0, HB0⟩
  case round =>
    obtain ⟨m, hm1, hm2, hO, hb⟩ := hrel
    obtain ⟨oo, cc, hv, hRr, hrn, hc1, hc2⟩ := own_data hO.out
    by_cases hmN : m < N
    · have d1 : decide ((m : Int) < N) = true := by simp; omega
      have hO' := hO
      rw [hv] at hO'
      rw [hv]
      go_wp2_with (at_builtin; go_must (refine app_one rfl (.tmp 23) (.tmp 24) _ rfl w.heap.size 3 _ 1 8 Try.underlying32 intRow _ m (rowF m (iV (co f))) (by rfl) hO'.out [.int .i64 0] (by rfl) rfl (by intro u hu; simp at hu; subst hu; rfl) (by unfold maxLen; omega) (by omega) hb.out.size ?_); intro v2 w2 hown2 hgr2 hb3)
      have hO3 : Hid (w2.ownsRow w.heap.size 3 1 v2 (m + 1) (rowF (m + 1) (iV (co f)))) := by
        show World.ownsRow _ _ _ _ _ _ _
        rw [rowF_succ]
        have : iV (co f) m = .int .i64 0 := by unfold iV; rw [co_out (by rw [HLF.out]; exact hm1)]
        rw [this]; exact hown2
      have hb4 := Lib.hid (hb.out.trans hb3)
      obtain ⟨o3, c3, hv3, _, _, _, _⟩ := own_data hown2
      subst hv3
      clear hown2 hgr2 hb3
      go_roundw
      case rel => exact ⟨m + 1, by omega, by omega, hO3, hb4⟩
      case measure => simp; omega
    · have d1 : decide ((m : Int) < N) = false := by simp; omega
      subst hv
      have hmm : N ≤ m := by omega
      go_wp2_with fail
      have hO1 : Hid (wr.ownsRow w.heap.size 3 1 (.slice oo m cc) m (rowF m (iV (plusS p f by_ g high 0)))) := by
        show World.ownsRow _ _ _ _ _ _ _
        rw [rowF_congr (g := iV (co f)) fun k _ => by unfold iV; rw [plusS_zero]]; exact hO.out
      clear hRr hO
      go_loopw [28] (fun vx wi => ∃ j : Nat, vx = .int .i64 j ∧ j ≤ ng ∧ Hid (wi.ownsRow w.heap.size 3 1 (.slice oo m cc) m (rowF m (iV (plusS p f by_ g high j)))) ∧ Hid (Below w.heap.size w wi)) (fun vx _ => ng - (intOf vx).toNat)
      case atStart => exact ⟨0, rfl, by omega, hO1, hb⟩
      case round =>
        obtain ⟨j, rfl, hjn, hO2, hb2⟩ := hrel
        by_cases hj1 : j < ng
        · obtain ⟨G, hoo⟩ : ∃ G, oo = some ⟨G, 0, none⟩ := by
            obtain ⟨G, c5, hv5⟩ := own_form hO2.out (by
              intro h
              have := congrArg List.length h
              rw [rowF_length, List.length_nil] at this
              have := HNe.out
              omega)
            injection hv5 with e1 e2 e3
            exact ⟨G, e1⟩
          subst hoo
          have hO2' : Hid (Own wr w.heap.size 3 G m cc (iV (plusS p f by_ g high j))) := hO2
          obtain ⟨b, hbj⟩ : ∃ b, co g j = b := ⟨_, rfl⟩
          obtain ⟨b2, o2, rfl, c2⟩ := (hG.out.below hb2.out) j (.int .i64 b) (by rw [List.getElem?_map, co_some (by rw [HLG.out]; exact hj1), hbj]; rfl)
          have hbb := hg.out.co (by omega) j
          rw [hbj] at hbb
          obtain ⟨i, hi⟩ : ∃ i, high + j = i := ⟨_, rfl⟩
          have hii : (j : Int) + high = i := by omega
          have him : i < m := by have := HNe.out; omega
          have i0 : (0 : Int) ≤ i := by omega
          have i1 : (i : Int) < m := by omega
          have wi1 : IntKind.i64.wrap (i : Int) = i := IntWalk.i64_in _ (by omega)
          obtain ⟨s, hs⟩ : ∃ s, co f i = s := ⟨_, rfl⟩
          have hsb := hf.out.co (by omega) i
          rw [hs] at hsb
          have hat : plusS p f by_ g high j i = s := by unfold plusS; rw [if_neg (by omega), hs]
          have c3 := hO2'.out.cell him
          have f3 := hO2'.out.frozen i
          unfold iV at c3
          rw [hat] at c3
          have hx : -1000000000 ≤ by_ * b ∧ by_ * b ≤ 1000000000 := by
            have h1 : by_ * b ≤ 1000000 * b := Int.mul_le_mul_of_nonneg_right hby2 hbb.1
            have h2 : (-1000000) * b ≤ by_ * b := Int.mul_le_mul_of_nonneg_right hby hbb.1
            omega
          obtain ⟨x, hxe⟩ : ∃ x, by_ * b = x := ⟨_, rfl⟩
          rw [hxe] at hx
          have wx : IntKind.i64.wrap x = x := IntWalk.i64_in _ (by omega)
          have ws : IntKind.i64.wrap (s + x) = s + x := IntWalk.i64_in _ (by omega)
          obtain ⟨r, hr⟩ : ∃ r, (s + x) % p = r := ⟨_, rfl⟩
          have CM := Lib.hid (fun w => ref_mod (s + x) p w (by omega) (by omega) (by omega) (by omega))
          rw [hr] at CM
          have HI := Lib.hid hi
          have HS : Hid (co f i = s) := hs
          have HBJ := Lib.hid hbj
          clear hs hbj hat hi
          go_wp2_with (go_at_call 99; refine (CM.out _).mono ?_; rintro e w' ⟨rfl, n3, rfl⟩; have f4 : (wr.drewN n3).frozen? ⟨G, i, none⟩ = false := f3; have c4 : (wr.drewN n3).cell? ⟨G, i, none⟩ = some (.int .i64 s) := c3)
          have st := (hO2'.out.drewN n3).store i (.int .i64 r)
          have hO3 : Hid (World.ownsRow ((wr.drewN n3).setCell ⟨G, i, none⟩ (.int .i64 r)) w.heap.size 3 1 (.slice (some ⟨G, 0, none⟩) m cc) m (rowF m (iV (plusS p f by_ g high (j + 1))))) := st.1.congr fun k _ => by
            unfold iV
            rw [plusS_step, HI.out]
            by_cases hk : k = i
            · subst hk; rw [if_pos rfl, if_pos rfl, HS.out, HBJ.out, hxe, hr]
            · rw [if_neg hk, if_neg hk]
          have hb3 := Lib.hid ((hO2'.out.drewN n3).belowStore (below_drewN hb2.out n3) (Nat.le_refl _) i (.int .i64 r))
          clear st
          go_roundw
          case rel => exact ⟨j + 1, by go_num, by omega, hO3, hb3⟩
          case measure => simp [intOf]; omega
        · have hjg : j = g.length := by rw [HLG.out]; omega
          have hR : Hid (Reads wr oo ((mkL m fun k => (co f k + by_ * sh g high k) % p).map (Value.int .i64))) := by
            obtain ⟨a2, c6, hv6, hR6, _⟩ := own_data hO2.out
            injection hv6 with e1 e2 e3
            show Reads _ _ _
            rw [map_mkL, e1]
            rw [hjg] at hR6
            rw [rowF_congr (g := iV (plusS p f by_ g high g.length)) fun k _ => by unfold iV; rw [plusS_full hf.out (by omega)]]
            exact hR6
          have hpol : Hid (IsPol p (fun k => co f k + by_ * sh g high k) (trim (mkL m fun k => (co f k + by_ * sh g high k) % p))) := isPol_trim fun k => by
            rw [co_mkL]
            split
            · rfl
            · rename_i hk
              rw [co_out (f := f) (by rw [HLF.out]; omega), sh_ge g (by have := HNe.out; rw [HLG.out]; omega), Int.mul_zero]; simp
          clear hjg
          go_wp2_with (go_at_call 77; refine (ref_Short (mkL m fun k => (co f k + by_ * sh g high k) % p) m oo cc w.heap.size _ (by omega) (mkL_length _ _) hc1 hc2 hrn hR hb2.out.size).mono ?_; rintro e w' ⟨v, rfl, hv1, hv2⟩)
          go_ret
          exact ⟨_, hpol.out, v, rfl, hv1, hb2.out.trans (Below.mono hv2 (Nat.le_refl _))⟩
theorem cvn_cong (f g : List Int) (i k : Nat) {p : Int} {h : List Int} (hh : ∀ k, co h k = cvn f g i k % p) : (co h k + co f i * sh g i k) % p = cvn f g (i + 1) k % p := by
  rw [hh, Int.emod_add_emod]; rfl
end Go.Proofs.Ytmeffbooabionaa
