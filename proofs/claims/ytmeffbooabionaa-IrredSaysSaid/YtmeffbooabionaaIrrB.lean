/- irred.is: trial division. -/
import Derived.Test.YtmeffbooabionaaIrrA
import Derived.Deep.DeepCutAuto
set_option linter.unusedVariables false
set_option linter.unusedSimpArgs false
namespace Go.Proofs.Ytmeffbooabionaa
open Go.RowKit

theorem own_readsI {w : World} {base e size : Nat} {ao : Option Addr} {n m cap : Nat} {xs : List Value} (h : w.ownsRow base e size (.slice ao n cap) m xs) : Reads w ao xs := by
  obtain ⟨a, c, hv, hR, _, _⟩ := own_reads h
  cases hv
  exact hR
/-- The monic polynomial of degree d with the number k divides f. -/
def remZ (p : Nat) (f : List Int) (d k : Nat) : Prop := ∀ j, rdn p 1 (mon p d k) (co f) (KOf f (mon p d k)) (KOf f (mon p d k)) j = 0
def IrrP (p : Nat) (f : List Int) : Prop := 2 ≤ f.length ∧ ∀ d, 1 ≤ d → 2 * d + 1 ≤ f.length → ∀ k, k < p ^ d → ¬ remZ p f d k
noncomputable def irrB (p : Nat) (f : List Int) : Bool := @decide (IrrP p f) (Classical.propDecidable _)
theorem irrB_true {p : Nat} {f : List Int} (h : IrrP p f) : irrB p f = true := by unfold irrB; exact @decide_eq_true _ (Classical.propDecidable _) h
theorem irrB_false {p : Nat} {f : List Int} (h : ¬ IrrP p f) : irrB p f = false := by unfold irrB; exact @decide_eq_false _ (Classical.propDecidable _) h
theorem irrB_iff {p : Nat} {f : List Int} : irrB p f = true ↔ IrrP p f := by unfold irrB; exact @decide_eq_true_iff _ (Classical.propDecidable _)
theorem rem_nil {r : List Int} {F : Nat → Int} (h : Trm r ∧ ∀ k, co r k = F k) : r.length = 0 ↔ ∀ k, F k = 0 := by
  constructor
  · intro h0 k
    rw [← h.2, List.eq_nil_of_length_eq_zero h0, co_nil]
  · intro h0
    rcases h.1 with h1 | h1
    · exact h1
    · rw [h.2, h0] at h1; exact absurd rfl h1
theorem mon_top (p d k : Nat) : co (mon p d k) ((mon p d k).length - 1) = 1 := by
  rw [mon_len]
  unfold co mon monN digsN
  simp
theorem mon_in {p d k : Nat} (hp : 2 ≤ p) : InF (p : Int) (mon p d k) := by
  intro x hx
  unfold mon monN digsN at hx
  rw [List.map_append, List.mem_append] at hx
  rcases hx with hx | hx
  · obtain ⟨y, hy, rfl⟩ := List.mem_map.1 hx
    obtain ⟨i, _, rfl⟩ := List.mem_map.1 hy
    unfold dig
    have := Nat.mod_lt (k / p ^ i) (show 0 < p by omega)
    omega
  · simp at hx
    subst hx
    omega
theorem mon_ok {p d k : Nat} (hp2 : 2 ≤ p) (hp : p ≤ 997) (hpr : IsPr p) (hd : d ≤ 39) : PolOk (p : Int) (mon p d k) :=
  ⟨by omega, by omega, by simpa using hpr, by rw [mon_len]; omega, mon_in hp2, .inr (by rw [mon_top]; omega)⟩
theorem mon_inv {p d k : Nat} (hp2 : 2 ≤ p) (hp : p ≤ 997) (hpr : IsPr p) (hd : d ≤ 39) : bezX (co (mon p d k) ((mon p d k).length - 1) % (p : Int)) (p : Int) = 1 ∧ (1 : Int) * co (mon p d k) ((mon p d k).length - 1) % (p : Int) = 1 ∧ gI (co (mon p d k) ((mon p d k).length - 1) % (p : Int)) (p : Int) = 1 := by
  obtain ⟨inv, h1, h2, h3, h4, h5⟩ := inv_of (mon_ok (k := k) hp2 hp hpr hd) (by rw [mon_len]; omega)
  rw [mon_top] at h1 h4 h5 ⊢
  have e : inv = 1 := by
    rw [Int.mul_one, Int.emod_eq_of_lt h2 h3] at h4
    exact h4
  subst e
  exact ⟨h1, h4, h5⟩
theorem irr_hit {p : Nat} {f : List Int} {d k : Nat} (h1 : 1 ≤ d) (h2 : 2 * d + 1 ≤ f.length) (hk : k < p ^ d) (h : remZ p f d k) : irrB p f = false := irrB_false fun hh => hh.2 d h1 h2 k hk h
set_option maxRecDepth 100000 in
set_option maxHeartbeats 8000000 in
theorem irr_is (p : Nat) (f : List Int) (nf : Nat) (ao : Option Addr) (ca : Nat) (w : World) (OF : PolOk (p : Int) f) (hpw : ∀ d, 2 * d + 1 ≤ f.length → p ^ d ≤ 1000000) (hlf : f.length = nf) (hnone : ao = none → nf = 0 ∧ ca = 0) (hF : Hid (Reads w ao (f.map (Value.int .i64)))) :
    Calls Try.prog 46 #[.int .i64 p, .slice ao nf ca] w fun e w' => e = .returned (.bool (irrB p f)) ∧ Below w.heap.size w w' := by
  have hp2 : 2 ≤ p := by have := OF.p1; omega
  have hp : p ≤ 997 := by have := OF.p2; omega
  have hpr : IsPr p := by have := OF.pr; simpa using this
  have hl40 : nf ≤ 40 := by rw [← hlf]; exact OF.len
  have HLF := Lib.hid hlf
  have HOF := Lib.hid OF
  have HPR := Lib.hid hpr
  have HPW : Hid (∀ d, 2 * d + 1 ≤ nf → p ^ d ≤ 1000000) := by rw [← hlf]; exact hpw
  have HN := Lib.hid hnone
  clear OF hpw hlf hpr hnone
  by_cases hs : nf < 2
  · have hR : Hid (irrB p f = false) := irrB_false fun h => by have := h.1; rw [HLF.out] at this; omega
    have hz : (nf : Int) < 2 := by omega
    go_enter Try.func46, Try.ntmps46
    go_wp2_with fail
    go_ret
    rw [hR.out]
    exact ⟨rfl, Below.refl _ _⟩
  · have hz : ¬ ((nf : Int) < 2) := by omega
    go_enter Try.func46, Try.ntmps46
    go_wp2_with fail
    go_loopw [5] (fun vd wr => ∃ (d : Nat), vd = .int .i64 d ∧ 1 ≤ d ∧ d ≤ 40 ∧ Hid (∀ d', 1 ≤ d' → d' < d → ∀ k, k < p ^ d' → ¬ remZ p f d' k) ∧ Hid (Below w.heap.size w wr)) (fun vd _ => 41 - (intOf vd).toNat)
    case atStart => exact ⟨1, rfl, Nat.le_refl _, by omega, fun d' h1 h2 => by omega, Below.refl _ _⟩
    case round =>
      obtain ⟨d, rfl, hd1, hd40, hno, hB⟩ := hrel
      obtain ⟨wo, rfl⟩ : ∃ wo, wo = wr := ⟨_, rfl⟩
      by_cases h2d : 2 * d + 1 ≤ nf
      · have hzd : 2 * (d : Int) ≤ (nf : Int) - 1 := by omega
        have CP := Lib.hid (fun W => irr_power p d W hp2 hp (by omega))
        have hpd := HPW.out d h2d
        obtain ⟨P, hP⟩ : ∃ P, p ^ d = P := ⟨_, rfl⟩
        have HP := Lib.hid hP
        rw [hP] at hpd
        clear hP
        go_wp2_with (first
          | (go_at_call 45; (refine (CP.out _).mono ?_); rintro e w1 ⟨⟨v, rfl, hv⟩, rfl⟩; obtain rfl : v = P := (hv.1 (by rw [HP.out]; exact hpd)).trans HP.out; clear hv)
          | fail)
        go_loopw [23] (fun vk wr => ∃ (k : Nat), vk = .int .i64 k ∧ k ≤ v ∧ Hid (∀ k', k' < k → ¬ remZ p f d k') ∧ Hid (Below w.heap.size w wr)) (fun vk _ => v - (intOf vk).toNat)
        case atStart => exact ⟨0, rfl, Nat.zero_le _, fun k' h => by omega, hB⟩
        case round =>
          clear hB
          obtain ⟨k, rfl, hk, hnk, hB⟩ := hrel
          obtain ⟨wi, rfl⟩ : ∃ wi, wi = wr := ⟨_, rfl⟩
          by_cases hkv : k < v
          · have hkz : (k : Int) < (v : Int) := by omega
            have CM := Lib.hid (irr_monic p d k wi hp2 hp (by omega) (by omega))
            obtain ⟨i1, i2, i3⟩ := mon_inv (k := k) (d := d) hp2 hp HPR.out (by omega)
            have CD := Lib.hid (fun W (bo : Option Addr) (cb : Nat) hR hG => poly_Divided p f (mon p d k) nf (d + 1) ao bo ca cb W (by omega) 1 (by omega) (by omega) (divOk_of HOF.out (mon_ok hp2 hp HPR.out (by omega)) (by rw [mon_len]; omega) i2) i3 i1 HLF.out (mon_len p d k) (by omega) (by omega) HN.out hR hG)
            clear i1 i2 i3
            have hFi := Lib.hid (hF.out.below hB.out)
            have HSi : Hid (w.heap.size ≤ wi.heap.size) := hB.out.size
            have e1 : ((d + 1 : Nat) : Int) = ((d + 1 : Nat) : Int) := rfl
            obtain ⟨M, hM⟩ : ∃ M, d + 1 = M := ⟨_, rfl⟩
            rw [hM] at CM CD
            clear hM e1
            go_upto_region 10 with (first
              | (go_at_call 48; (refine CM.out.mono ?_); rintro e w2 ⟨g, rfl, hG2, hb2⟩; have hGr := Lib.hid (own_readsI hG2); have hF2 := Lib.hid (hFi.out.below hb2))
              | (go_at_call 71; (refine (CD.out w2 _ _ hF2 hGr).mono ?_); rintro e w3 ⟨q, r, vq, vr, hq, hr, hb3, rfl, hOq, hOr⟩; obtain ⟨ra, rc, rfl, _⟩ := own_dataK hOr)
              | fail)
            have hB3 : Hid (Below w.heap.size w w3) := hB.out.trans ((hb2.trans (hb3.mono hb2.size)).mono HSi.out)
            have hz := Lib.hid (rem_nil hr)
            clear hG2 hGr hF2 hOq hOr hq hr hb2 hb3
            by_cases hr0 : r.length = 0
            · have hR : Hid (irrB p f = false) := irr_hit hd1 (by rw [HLF.out]; exact h2d) (by rw [HP.out]; exact hkv) (hz.out.1 hr0)
              have hrz : (r.length : Int) = 0 := by omega
              rw [hr0]
              go_wp2_with fail
              go_ret
              rw [hR.out]
              exact ⟨rfl, hB3.out⟩
            · have hNK : Hid (∀ k', k' < k + 1 → ¬ remZ p f d k') := by
                intro k' h
                by_cases he : k' = k
                · subst he; exact fun hh => hr0 (hz.out.2 hh)
                · exact hnk.out k' (by omega)
              have hrz : ¬ ((r.length : Int) = 0) := by omega
              have hrz2 : ((r.length : Int) == 0) = false := beq_eq_false_iff_ne.2 hrz
              go_wp2_with fail
              go_roundw
              case rel => exact ⟨k + 1, by go_num, by omega, hNK, hB3⟩
              case measure => simp [intOf]; omega
          · obtain rfl : v = k := by omega
            have hND : Hid (∀ d', 1 ≤ d' → d' < d + 1 → ∀ k, k < p ^ d' → ¬ remZ p f d' k) := by
              intro d' h1 h2 k hk
              by_cases he : d' = d
              · subst he; rw [HP.out] at hk; exact hnk.out k hk
              · exact hno.out d' h1 (by omega) k hk
            go_wp2_with fail
            go_roundw
            case rel => exact ⟨d + 1, by go_num, by omega, by omega, hND, hB⟩
            case measure => simp [intOf]; omega
      · have hzd : ¬ (2 * (d : Int) ≤ (nf : Int) - 1) := by omega
        have hR : Hid (irrB p f = true) := irrB_true ⟨by rw [HLF.out]; omega, fun d' h1 h2 k hk => hno.out d' h1 (by rw [HLF.out] at h2; omega) k hk⟩
        go_wp2_with fail
        go_ret
        rw [hR.out]
        exact ⟨rfl, hB.out⟩
end Go.Proofs.Ytmeffbooabionaa
