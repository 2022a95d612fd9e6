/- The reference's Alone: trial division of its own. -/
import Derived.Test.YtmeffbooabionaaIrrB
import Derived.Deep.DeepCutAuto
set_option linter.unusedVariables false
set_option linter.unusedSimpArgs false
namespace Go.Proofs.Ytmeffbooabionaa
open Go.RowKit

def dgL (p k i : Nat) : List Int := (digsN p i k).map fun x : Nat => (x : Int)
theorem dgL_len (p k i : Nat) : (dgL p k i).length = i := by unfold dgL digsN; simp
theorem dgL_succ (p k i : Nat) : dgL p k (i + 1) = dgL p k i ++ [(dig p k i : Int)] := by unfold dgL digsN; rw [List.range_succ]; simp
theorem mon_dg (p d k : Nat) : mon p d k = dgL p k d ++ [1] := by unfold mon monN dgL; simp
set_option maxRecDepth 100000 in
set_option maxHeartbeats 16000000 in
theorem ref_Alone (p : Nat) (f : List Int) (nf : Nat) (ao : Option Addr) (ca : Nat) (w : World) (OF : PolOk (p : Int) f) (hpw : ∀ d, 2 * d + 1 ≤ f.length → p ^ d ≤ 1000000) (hlf : f.length = nf) (hca : nf ≤ ca) (hca2 : ca ≤ 9223372036854775807) (hnone : ao = none → nf = 0 ∧ ca = 0) (hF : Hid (Reads w ao (f.map (Value.int .i64)))) :
    Calls Try.prog 26 #[.int .i64 p, .slice ao nf ca] w fun e w' => e = .returned (.bool (irrB p f)) ∧ Below w.heap.size w w' := by
  have hp2 : 2 ≤ p := by have := OF.p1; omega
  have hp : p ≤ 997 := by have := OF.p2; omega
  have hpr : IsPr p := by have := OF.pr; simpa using this
  have hl40 : nf ≤ 40 := by rw [← hlf]; exact OF.len
  have HLF := Lib.hid hlf
  have HOF := Lib.hid OF
  have HPR := Lib.hid hpr
  have HPW : Hid (∀ d, 2 * d + 1 ≤ nf → p ^ d ≤ 1000000) := by rw [← hlf]; exact hpw
  have HN := Lib.hid hnone
  have HC1 := Lib.hid hca
  have HC2 := Lib.hid hca2
  clear OF hpw hlf hpr hnone hca hca2
  by_cases hs : nf < 2
  · have hR : Hid (irrB p f = false) := irrB_false fun h => by have := h.1; rw [HLF.out] at this; omega
    have hz : (nf : Int) < 2 := by omega
    go_enter Try.func26, Try.ntmps26
    go_wp2_with fail
    go_ret
    rw [hR.out]
    exact ⟨rfl, Below.refl _ _⟩
  · have hz : ¬ ((nf : Int) < 2) := by omega
    go_enter Try.func26, Try.ntmps26
    go_wp2_with fail
    go_loopw [5] (fun vn wr => ∃ (d : Nat), vn = .int .i64 ((d : Int) + 1) ∧ 1 ≤ d ∧ d ≤ 40 ∧ 2 * d ≤ nf + 1 ∧ Hid (∀ d', 1 ≤ d' → d' < d → ∀ k, k < p ^ d' → ¬ remZ p f d' k) ∧ Hid (Below w.heap.size w wr)) (fun vn _ => 42 - (intOf vn).toNat)
    case atStart => exact ⟨1, rfl, Nat.le_refl _, by omega, by omega, fun d' h1 h2 => by omega, Below.refl _ _⟩
    case round =>
      obtain ⟨d, rfl, hd1, hd40, hd2, hno, hB⟩ := hrel
      obtain ⟨wo, rfl⟩ : ∃ wo, wo = wr := ⟨_, rfl⟩
      obtain ⟨n, hn⟩ : ∃ n, d + 1 = n := ⟨_, rfl⟩
      have en : (d : Int) + 1 = (n : Int) := by omega
      have en1 : (n : Int) - 1 = (d : Int) := by omega
      rw [en]
      by_cases hnf : n < nf
      · have hnz : (n : Int) < (nf : Int) := by omega
        have hq6 : p ^ (d - 1) ≤ 1000000 := HPW.out (d - 1) (by omega)
        have hPd : p ^ d ≤ 997000000 := by
          have e : p ^ d = p ^ (d - 1) * p := by rw [← Nat.pow_succ, show (d - 1).succ = d by omega]
          rw [e]
          exact Nat.le_trans (Nat.mul_le_mul hq6 hp) (by decide)
        have HPD := Lib.hid hPd
        clear hn en hq6 hPd
        go_wp2_with fail
        go_loopw [6, 20] (fun vm vj wr => ∃ (j v : Nat), vm = .int .i64 v ∧ vj = .int .i64 j ∧ j ≤ d ∧ v ≤ 997000000 ∧ Hid (p ^ j = v) ∧ wo = wr) (fun _ vj _ => d - (intOf vj).toNat)
        case atStart => exact ⟨0, 1, rfl, rfl, Nat.zero_le _, by decide, rfl, rfl⟩
        case round =>
          obtain ⟨j, v, rfl, rfl, hj, hv, hP, rfl⟩ := hrel
          by_cases hjd : j < d
          · obtain ⟨u, hu⟩ : ∃ u, v * p = u := ⟨_, rfl⟩
            have hP2 : Hid (p ^ (j + 1) = u) := by show _ = _; rw [Nat.pow_succ, hP.out, hu]
            have hm := pw_mono (i := j + 1) (j := d) (show 1 ≤ p by omega) (by omega)
            rw [hP2.out] at hm
            have hul : u ≤ 997000000 := Nat.le_trans hm HPD.out
            have eu : (v : Int) * (p : Int) = (u : Int) := by rw [← hu, Int.natCast_mul]
            have hjz : (j : Int) < (d : Int) := by omega
            clear hu hm
            go_wp2_with fail
            go_roundw
            case rel => exact ⟨j + 1, u, rfl, by go_num, by omega, hul, hP2, by first | rfl | trivial⟩
            case measure => simp [intOf]; omega
          · obtain rfl : d = j := by omega
            by_cases h2d : 2 * d + 1 ≤ nf
            · have hzd : ¬ ((nf : Int) - 1 < 2 * (d : Int)) := by omega
              have hv6 : v ≤ 1000000 := by have := HPW.out d h2d; rw [hP.out] at this; exact this
              go_wp2_with fail
              go_loopw [34] (fun vk wr => ∃ (k : Nat), vk = .int .i64 k ∧ k ≤ v ∧ Hid (∀ k', k' < k → ¬ remZ p f d k') ∧ Hid (Below w.heap.size w wr)) (fun vk _ => v - (intOf vk).toNat)
              case atStart => exact ⟨0, rfl, Nat.zero_le _, fun k' h => by omega, hB⟩
              case round =>
                clear hB
                obtain ⟨k, rfl, hk, hnk, hB⟩ := hrel
                obtain ⟨wi, rfl⟩ : ∃ wi, wi = wr := ⟨_, rfl⟩
                by_cases hkv : k < v
                · have hkz : (k : Int) < (v : Int) := by omega
                  go_wp2_with fail
                  go_loopw [7, 8, 39] (fun vx vg vi wr => ∃ (i x : Nat), vx = .int .i64 x ∧ vi = .int .i64 i ∧ i ≤ d ∧ x ≤ 1000000 ∧ Hid (k / p ^ i = x) ∧ Hid (wr.ownsRow w.heap.size 3 1 vg i ((dgL p k i).map (Value.int .i64))) ∧ Hid (Below w.heap.size w wr)) (fun _ _ vi _ => d - (intOf vi).toNat)
                  case atStart => exact ⟨0, k, rfl, rfl, Nat.zero_le _, by omega, by show k / p ^ 0 = k; simp, World.ownsRow_nil _ _ _ _, hB⟩
                  case round =>
                    clear hB
                    obtain ⟨i, x, rfl, rfl, hi, hx, hX, hO, hB⟩ := hrel
                    have hSZ : Hid (w.heap.size ≤ wr.heap.size) := hB.out.size
                    by_cases hid : i < d
                    · obtain ⟨r, hr⟩ : ∃ r, x % p = r := ⟨_, rfl⟩
                      obtain ⟨s, hs⟩ : ∃ s, x / p = s := ⟨_, rfl⟩
                      have er : Int.tmod (x : Int) (p : Int) = (r : Int) := by rw [← hr]; exact Int.ofNat_tmod x p
                      have er2 : (x : Int) % (p : Int) = (r : Int) := by rw [← hr]; rfl
                      have es : Int.tdiv (x : Int) (p : Int) = (s : Int) := by rw [← hs]; rfl
                      have es2 : (x : Int) / (p : Int) = (s : Int) := by rw [← hs]; rfl
                      have hp0 : ¬ ((p : Int) = 0) := by omega
                      have hsl : s ≤ 1000000 := by rw [← hs]; exact Nat.le_trans (Nat.div_le_self _ _) hx
                      have HX2 : Hid (k / p ^ (i + 1) = s) := by show _ = _; rw [Nat.pow_succ, ← Nat.div_div_eq_div_mul, hX.out, hs]
                      have HD : Hid (dig p k i = r) := by show _ = _; unfold dig; rw [hX.out, hr]
                      have hidz : (i : Int) < (d : Int) := by omega
                      clear hr hs
                      go_wp2_with (at_builtin; go_must (refine app_one2 rfl (.tmp 41) (.tmp 45) 32 rfl w.heap.size 3 _ 1 8 Try.underlying32 intInfoI u8 i ((dgL p k i).map (Value.int .i64)) (by rfl) hO.out [.int .i64 (r : Int)] (by rfl) rfl (by intro u hu; simp at hu; subst hu; rfl) (by unfold maxLen; omega) (by omega) hSZ.out ?_); intro v1 w1 hl1 hg1 hb1 hk1)
                      go_roundw
                      case rel =>
                        refine ⟨i + 1, s, rfl, by go_num, by omega, hsl, HX2, ?_, hB.out.trans hb1⟩
                        show World.ownsRow _ _ _ _ _ _ _
                        rw [dgL_succ, HD.out, List.map_append]
                        exact hl1
                      case measure => simp [intOf]; omega
                    · obtain rfl : d = i := by omega
                      obtain ⟨i1, i2, i3⟩ := mon_inv (k := k) (d := d) hp2 hp HPR.out (by omega)
                      have CR := Lib.hid (fun W (bo : Option Addr) (cb : Nat) hR hG => ref_Remain p 1 f (mon p d k) nf (d + 1) ao bo ca cb W (by omega) (by omega) (by omega) (divOk_of HOF.out (mon_ok hp2 hp HPR.out (by omega)) (by rw [mon_len]; omega) i2) HOF.out.trm HLF.out (mon_len p d k) (by omega) (by omega) HC1.out HC2.out HN.out hR hG)
                      have HMD := Lib.hid (mon_dg p d k)
                      obtain ⟨M, hM⟩ : ∃ M, d + 1 = M := ⟨_, rfl⟩
                      have HM := Lib.hid hM
                      rw [hM] at CR
                      clear i1 i2 i3 hM
                      go_upto_if 58 with (first
                        | (at_builtin; go_must (refine app_one2 rfl (.tmp 53) (.tmp 54) 32 rfl w.heap.size 3 _ 1 8 Try.underlying32 intInfoI u8 d ((dgL p k d).map (Value.int .i64)) (by rfl) hO.out [.int .i64 1] (by rfl) rfl (by intro u hu; simp at hu; subst hu; rfl) (by unfold maxLen; omega) (by omega) hSZ.out ?_); intro v1 w1 hl1 hg1 hb1 hk1; rw [HM.out] at hl1; obtain ⟨ga, gc, rfl, hGr0, _⟩ := own_dataK hl1; have hGr := Lib.hid (show Reads w1 ga ((mon p d k).map (Value.int .i64)) by rw [HMD.out, List.map_append]; exact hGr0); have hB1 := Lib.hid (hB.out.trans hb1); have hF1 := Lib.hid (hF.out.below hB1.out))
                        | (go_at_call 53; (refine (CR.out _ ga gc hF1 hGr).mono ?_); rintro e w3 ⟨h, ht, hh, hhl, vh, rfl, hOh, hb3⟩; obtain ⟨ra, rc, rfl, _⟩ := own_dataK hOh; have hB3 := Lib.hid (hB1.out.trans (hb3.mono hB1.out.size)); have hz := Lib.hid (rem_nil ⟨ht, hh⟩); obtain ⟨hlen, hhe⟩ : ∃ z, h.length = z := ⟨_, rfl⟩; rw [hhe] at hz ⊢; clear hOh ht hh hb3)
                        | fail)
                      by_cases hr0 : hlen = 0
                      · have hR : Hid (irrB p f = false) := irr_hit hd1 (by rw [HLF.out]; exact h2d) (by rw [hP.out]; exact hkv) (hz.out.1 hr0)
                        subst hr0
                        go_wp2_with fail
                        go_ret
                        rw [hR.out]
                        exact ⟨rfl, hB3.out⟩
                      · have hNK : Hid (∀ k', k' < k + 1 → ¬ remZ p f d k') := by
                          intro k' h
                          by_cases he : k' = k
                          · subst he; exact fun hh => hr0 (hz.out.2 hh)
                          · exact hnk.out k' (by omega)
                        have hrz : ¬ ((hlen : Int) = 0) := by omega
                        have hrz2 : ((hlen : Int) == 0) = false := beq_eq_false_iff_ne.2 hrz
                        go_wp2_with fail
                        go_roundw
                        case rel => exact ⟨k + 1, by go_num, by omega, hNK, hB3⟩
                        case measure => simp [intOf]; omega
                · obtain rfl : v = k := by omega
                  have hND : Hid (∀ d', 1 ≤ d' → d' < d + 1 → ∀ k, k < p ^ d' → ¬ remZ p f d' k) := by
                    intro d' h1 h2 k hk
                    by_cases he : d' = d
                    · subst he; rw [hP.out] at hk; exact hnk.out k hk
                    · exact hno.out d' h1 (by omega) k hk
                  go_wp2_with fail
                  go_roundw
                  case rel => exact ⟨d + 1, by (first | rfl | (simp only [Value.int.injEq, true_and]; omega)), by omega, by omega, by omega, hND, hB⟩
                  case measure => simp [intOf]; omega
            · have hzd : (nf : Int) - 1 < 2 * (d : Int) := by omega
              have hR : Hid (irrB p f = true) := irrB_true ⟨by rw [HLF.out]; omega, fun d' h1 h2 k hk => hno.out d' h1 (by rw [HLF.out] at h2; omega) k hk⟩
              go_wp2_with fail
              go_ret
              rw [hR.out]
              exact ⟨rfl, hB.out⟩
      · have hnz : ¬ ((n : Int) < (nf : Int)) := by omega
        have hR : Hid (irrB p f = true) := irrB_true ⟨by rw [HLF.out]; omega, fun d' h1 h2 k hk => hno.out d' h1 (by rw [HLF.out] at h2; omega) k hk⟩
        go_wp2_with fail
        go_ret
        rw [hR.out]
        exact ⟨rfl, hB.out⟩
end Go.Proofs.Ytmeffbooabionaa
