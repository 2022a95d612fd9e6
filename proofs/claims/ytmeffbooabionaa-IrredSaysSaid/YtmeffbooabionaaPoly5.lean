/- poly.Divided. -/
import Derived.Test.YtmeffbooabionaaPoly4
import Derived.Test.YtmeffbooabionaaRestB
set_option linter.unusedVariables false
set_option linter.unusedSimpArgs false
namespace Go.Proofs.Ytmeffbooabionaa
open Go.RowKit

def remS (p c : Int) (S : Nat → Int) (g : List Int) (k j i : Nat) : Int := if k ≤ i ∧ i < k + j then (S i - c * co g (i - k)) % p else S i
theorem remS_zero (p c : Int) (S : Nat → Int) (g : List Int) (k i : Nat) : remS p c S g k 0 i = S i := by unfold remS; rw [if_neg (by omega)]
theorem remS_step (p c : Int) (S : Nat → Int) (g : List Int) (k j i : Nat) : remS p c S g k (j + 1) i = if i = k + j then (S (k + j) + (p - c) * co g j) % p else remS p c S g k j i := by
  unfold remS
  by_cases h : i = k + j
  · subst h
    rw [if_pos rfl, if_pos (by omega), Nat.add_sub_cancel_left]
    have e : S (k + j) + (p - c) * co g j = (S (k + j) - c * co g j) + p * co g j := by grind
    rw [e, Int.add_mul_emod_self_left]
  · rw [if_neg h]
    by_cases h2 : k ≤ i ∧ i < k + j
    · rw [if_pos h2, if_pos (by omega)]
    · rw [if_neg h2, if_neg (by omega)]
theorem remS_at (p c : Int) (S : Nat → Int) (g : List Int) (k j : Nat) : remS p c S g k j (k + j) = S (k + j) := by unfold remS; rw [if_neg (by omega)]
theorem sub_mul_mod (s c t p : Int) : (s - c % p * t) % p = (s - c * t) % p := by
  have hm : c = c % p + p * (c / p) := (Int.emod_add_mul_ediv c p).symm
  have e : s - c * t = (s - c % p * t) + p * (-(c / p) * t) := by
    generalize c % p = m at hm ⊢
    generalize c / p = d at hm ⊢
    subst hm
    grind
  rw [e, Int.add_mul_emod_self_left]
theorem remS_full {p inv : Int} {g f : List Int} (D : DivOk p inv g f) (K t i : Nat) :
    remS p (rdn p inv g (co f) K t (K - 1 - t + g.length - 1) * inv % p) (rdn p inv g (co f) K t) g (K - 1 - t) g.length i = rdn p inv g (co f) K (t + 1) i := by
  show _ = (rdn p inv g (co f) K t i - rdn p inv g (co f) K t (K - 1 - t + g.length - 1) * inv * sh g (K - 1 - t) i) % p
  unfold remS
  by_cases h : K - 1 - t ≤ i ∧ i < K - 1 - t + g.length
  · rw [if_pos h, sub_mul_mod]
    congr 2
    unfold sh
    rw [if_pos h.1]
  · rw [if_neg h]
    have : sh g (K - 1 - t) i = 0 := by
      rcases Nat.lt_or_ge i (K - 1 - t) with h2 | h2
      · exact sh_lt g h2
      · exact sh_ge g (by omega)
    rw [this, Int.mul_zero, Int.sub_zero, rdn_mod D]
def quoS (p inv : Int) (g f : List Int) (t k : Nat) : Int := if KOf f g - t ≤ k then quo p inv g f k else 0
theorem quoS_zero {p inv : Int} {g f : List Int} (k : Nat) : quoS p inv g f 0 k = 0 := by
  unfold quoS quo
  split
  · rw [if_neg (by omega)]
  · rfl
theorem quoS_step {p inv : Int} {g f : List Int} (t k : Nat) (ht : t < KOf f g) : quoS p inv g f (t + 1) k = if k = KOf f g - 1 - t then rdn p inv g (co f) (KOf f g) t (KOf f g - 1 - t + g.length - 1) * inv % p else quoS p inv g f t k := by
  unfold quoS
  by_cases h : k = KOf f g - 1 - t
  · rw [if_pos h, if_pos (by omega)]
    unfold quo
    rw [if_pos (by omega), h, show KOf f g - 1 - (KOf f g - 1 - t) = t by omega]
  · rw [if_neg h]
    by_cases h2 : KOf f g - t ≤ k
    · rw [if_pos h2, if_pos (by omega)]
    · rw [if_neg h2, if_neg (by omega)]
/-- What Divided hands back. -/
def DivPost (p inv : Int) (f g : List Int) (w : World) (e : Ending) (w' : World) : Prop :=
  ∃ q r vq vr, (Trm q ∧ ∀ k, co q k = quo p inv g f k) ∧ (Trm r ∧ ∀ k, co r k = rdn p inv g (co f) (KOf f g) (KOf f g) k) ∧ Below w.heap.size w w' ∧ e = .returned (.tuple #[vq, vr]) ∧
    w'.ownsRow w.heap.size 3 1 vq q.length (q.map (Value.int .i64)) ∧ w'.ownsRow w.heap.size 3 1 vr r.length (r.map (Value.int .i64))
theorem own_data {w : World} {base e : Nat} {v : Value} {n : Nat} {xs : List Value} (h : w.ownsRow base e 1 v n xs) : ∃ ao cap, v = .slice ao n cap ∧ Reads w ao xs ∧ (ao = none → n = 0 ∧ cap = 0) ∧ n ≤ cap ∧ cap ≤ 9223372036854775807 := by
  obtain ⟨ao, cap, hv, hR, hn, _⟩ := own_reads h
  refine ⟨ao, cap, hv, hR, hn, ?_⟩
  rcases h.2 with ⟨h1, h2⟩ | ⟨g, cp, cur, hv3, h2⟩
  · rw [h1] at hv
    injection hv with e1 e2 e3
    omega
  · rw [hv3] at hv
    injection hv with e1 e2 e3
    have := h2.2.2.1
    have := h2.2.2.2.1
    unfold maxLen at *
    omega
theorem own_self {w : World} {base e g n cap : Nat} {f : List Int} (h : w.ownsRow base e 1 (.slice (some ⟨g, 0, none⟩) n cap) n (f.map (Value.int .i64))) (hl : f.length = n) : Own w base e g n cap (iV (co f)) := by
  unfold Own
  rw [map_iV, hl] at h
  exact h
theorem rdn_bd' {p inv : Int} {g f : List Int} (D : DivOk p inv g f) (hp : p ≤ 997) (K t j : Nat) {s : Int} (h : rdn p inv g (co f) K t j = s) : 0 ≤ s ∧ s ≤ 996 := by
  have := rdn_bd D K t j
  omega
theorem own_cap {w : World} {base e g n cap : Nat} {f : Nat → Value} (h : Own w base e g n cap f) : n ≤ cap ∧ cap ≤ 9223372036854775807 := by
  obtain ⟨ao, c, hv, _, _, h1, h2⟩ := own_data h
  injection hv with e1 e2 e3
  subst e3
  exact ⟨h1, h2⟩
set_option maxRecDepth 100000 in
set_option maxHeartbeats 4000000 in
theorem poly_Divided (p : Int) (f g : List Int) (nf ng : Nat) (ao bo : Option Addr) (ca cb : Nat) (w : World) (hp2 : p ≤ 997) (inv : Int) (hi0 : 0 ≤ inv) (hi1 : inv < p) (D : DivOk p inv g f) (hgi : gI (co g (g.length - 1) % p) p = 1) (hinv : bezX (co g (g.length - 1) % p) p = inv) (hlf : f.length = nf) (hlg : g.length = ng) (hnf : nf ≤ 1000000) (hng : ng ≤ 1000000)
    (hnone : ao = none → nf = 0 ∧ ca = 0) (hF : Hid (Reads w ao (f.map (Value.int .i64)))) (hG : Hid (Reads w bo (g.map (Value.int .i64)))) :
    Calls Try.prog 71 #[.int .i64 p, .slice ao nf ca, .slice bo ng cb] w (DivPost p inv f g w) := by
  have HD := Lib.hid D
  have HLF := Lib.hid hlf
  have HLG := Lib.hid hlg
  have HN := Lib.hid hnone
  have hn1 := D.hn
  have hp1 := D.hp
  obtain ⟨l, hl⟩ : ∃ l, co g (g.length - 1) = l := ⟨_, rfl⟩
  have hlb := D.hg.co (by omega) (g.length - 1)
  rw [hl] at hlb hgi hinv
  have CI := Lib.hid (fun w => rest_Inverse l p w (by omega) (by omega) (by omega) (by omega) hgi)
  rw [hinv] at CI
  obtain ⟨j, hj⟩ : ∃ j, ng - 1 = j := ⟨_, rfl⟩
  obtain ⟨b, o, rfl, hcg⟩ := hG.out j (.int .i64 l) (by rw [List.getElem?_map, co_some (by omega), ← hj, ← hlg, hl]; rfl)
  have hjw : IntKind.i64.wrap ((ng : Int) - 1) = j := by rw [show (ng : Int) - 1 = j by omega]; exact IntWalk.i64_in _ (by omega)
  have j0 : (0 : Int) ≤ j := by omega
  have j1 : (j : Int) < ng := by omega
  have HL : Hid (co g (g.length - 1) = l) := hl
  have hng0 : 1 ≤ ng := by omega
  have CC := Lib.hid (clone_int f nf ao ca w.heap.size w (by omega) hlf hnone hF (Nat.le_refl _))
  clear hgi hinv D hlf hlg hnone hl
  obtain ⟨K, hK⟩ : ∃ K, KOf f g = K := ⟨_, rfl⟩
  have HK := Lib.hid hK
  unfold KOf at hK
  rw [HLF.out, HLG.out] at hK
  by_cases hlt : nf < ng
  · obtain rfl : K = 0 := by omega
    have w1 : IntKind.i64.wrap ((nf : Int) - ng) = (nf : Int) - ng := IntWalk.i64_in _ (by omega)
    have w2 : IntKind.i64.wrap ((nf : Int) - ng + 1) = (nf : Int) - ng + 1 := IntWalk.i64_in _ (by omega)
    have w3 : IntKind.i64.wrap (-1 : Int) = -1 := IntWalk.i64_in _ (by omega)
    obtain ⟨d, hd⟩ : ∃ d, (nf : Int) - ng + 1 = d := ⟨_, rfl⟩
    rw [hd] at w2
    have hd0 : d ≤ 0 := by omega
    have hmin : (nf : Int) - ng + 1 = d := hd
    have hnn : Hid (∀ k, nf ≤ k → co f k = 0) := fun k hk => co_out (by rw [HLF.out]; exact hk)
    obtain ⟨E, hE⟩ : ∃ E : List Int, E = [] := ⟨_, rfl⟩
    have HE := Lib.hid hE
    have HEl : Hid (E.length = 0) := by show _ = _; rw [hE]; rfl
    clear hK hj hd hE
    rcases Int.lt_or_le d 0 with hdn | hdz
    all_goals
      go_enter Try.func71, Try.ntmps71
      go_wp2_with (first | (go_at_call 73; refine CC.out.mono ?_; rintro e w1 ⟨v, rfl, hown, hb1⟩; rw [HLF.out] at hown; obtain ⟨ro, cR, rfl, hRr, hrn, hc1, hc2⟩ := own_data hown; have hcg1 := (hb1.cell (World.block_lt_of_cell? w _ hcg)).trans hcg) | (go_at_call 96; refine (CI.out _).mono ?_; rintro e w2 ⟨rfl, m2, rfl⟩) | (at_make; refine make_own rfl _ _ 32 rfl w.heap.size 3 _ 8 Try.underlying32 intRow rfl _ _ _ _ 0 (by rfl) (by rfl) (by omega) (by omega) (by omega) (by unfold maxLen; omega) (by exact hb1.size) ?_; intro w3 hownQ hg3))
      have hb13 : Below w1.heap.size w1 w3 := (below_dr _ w1 m2).trans (below_of_grown hg3 (Nat.le_refl _) (by intro k hk; cases hk))
      have HB0 : Hid (Below w.heap.size w w3) := hb1.trans (hb13.mono hb1.size)
      have HRr := Lib.hid (hRr.below hb13)
      obtain ⟨Qb, hQb⟩ : ∃ q, w1.heap.size = q := ⟨_, rfl⟩
      have hQb2 : (w1.drewN m2).heap.size = Qb := hQb
      rw [hQb2] at hownQ
      rw [hQb]
      have hQr : Hid (Reads w3 (some ⟨Qb, 0, none⟩) (E.map (Value.int .i64))) := by show Reads _ _ _; rw [HE.out]; exact Reads.nil _ _
      clear hownQ hg3 hown hb1 hcg1 hb13 hQb hQb2 hcg hRr
      go_loopw [12] (fun vx wr => vx = .int .i64 (-1) ∧ wr = w3) (fun _ _ => 0)
      case atStart => exact ⟨by simp, rfl⟩
      case round =>
        obtain ⟨rfl, rfl⟩ := hrel
        have hz1 : 0 ≤ 1000000000 := by omega
        have hz2 : 0 ≤ 9223372036854775807 := by omega
        have hnq : ∀ m n : Nat, some (⟨Qb, 0, none⟩ : Addr) = none → m = 0 ∧ n = 0 := fun m n h => by cases h
        go_wp2_with (first | (go_at_call 97; (with_reducible refine (poly_Trim E 0 (some ⟨Qb, 0, none⟩) 0 wr.heap.size _ hz1 HEl.out (Nat.le_refl _) hz2 (hnq _ _) hQr (Nat.le_refl _)).mono ?_); rintro e w4 ⟨vq, rfl, hq1, hq2⟩; have HR4 := Lib.hid (HRr.out.below hq2)) | (go_at_call 97; refine (poly_Trim f nf ro cR w4.heap.size _ (by omega) HLF.out hc1 hc2 hrn HR4 (Nat.le_refl _)).mono ?_; rintro e w5 ⟨vr, rfl, hr1, hr2⟩))
        go_ret2
        refine ⟨_, _, vq, vr, ⟨trm_trim _, fun k => ?_⟩, ⟨trm_trim _, fun k => ?_⟩, HB0.out.trans ((hq2.trans (hr2.mono hq2.size)).mono HB0.out.size), rfl, own_mono (own_below hq1 hr2) HB0.out.size, own_mono hr1 (Nat.le_trans HB0.out.size hq2.size)⟩
        · rw [co_trim, HE.out, co_nil]
          unfold quo
          rw [if_neg (by rw [HK.out]; omega)]
        · rw [co_trim, HK.out]; rfl
  · obtain ⟨K', hK'⟩ : ∃ K', K = K' + 1 := ⟨K - 1, by omega⟩
    have w1 : IntKind.i64.wrap ((nf : Int) - ng) = (nf : Int) - ng := IntWalk.i64_in _ (by omega)
    have w2 : IntKind.i64.wrap ((nf : Int) - ng + 1) = (K : Int) := by rw [show (nf : Int) - ng + 1 = K by omega]; exact IntWalk.i64_in _ (by omega)
    have hmx : ¬ ((K : Int) < 0) := by omega
    have w3 : IntKind.i64.wrap ((K : Int) - 1) = (K : Int) - 1 := IntWalk.i64_in _ (by omega)
    have hKn : Hid (K + ng = nf + 1) := by show _ = _; omega
    have hKb : K ≤ 1000001 := by omega
    have HNE : Hid (f.map (Value.int .i64) ≠ []) := by
      show _ ≠ _
      intro h
      have := congrArg List.length h
      rw [List.length_map, HLF.out, List.length_nil] at this
      omega
    clear hK hK' hj
    go_enter Try.func71, Try.ntmps71
    go_wp2_with (first | (go_at_call 73; refine CC.out.mono ?_; rintro e w1 ⟨v, rfl, hown, hb1⟩; rw [HLF.out] at hown; obtain ⟨R, cR, rfl⟩ := own_form hown HNE.out; have hcg1 := (hb1.cell (World.block_lt_of_cell? w _ hcg)).trans hcg) | (go_at_call 96; refine (CI.out _).mono ?_; rintro e w2 ⟨rfl, m2, rfl⟩) | (at_make; refine make_own rfl _ _ 32 rfl w.heap.size 3 _ 8 Try.underlying32 intRow rfl _ _ _ _ K (by rfl) (by rfl) (by omega) (by omega) (by omega) (by unfold maxLen; omega) (by exact hb1.size) ?_; intro w3 hownQ hg3))
    obtain ⟨Qb, hQb⟩ : ∃ q, w1.heap.size = q := ⟨_, rfl⟩
    have hQb2 : (w1.drewN m2).heap.size = Qb := hQb
    rw [hQb2] at hownQ
    rw [hQb]
    have hOR1 := own_self hown HLF.out
    have hRQ : R ≠ Qb := by
      have := hOR1.lt.2
      have h2 : w1.heap.size = Qb := hQb
      omega
    have hb13 : Below w1.heap.size w1 w3 := (below_dr _ w1 m2).trans (below_of_grown hg3 (Nat.le_refl _) (by intro k hk; cases hk))
    have HR0 : Hid (Own w3 w.heap.size 3 R nf cR (iV (rdn p inv g (co f) K 0))) := hOR1.below hb13
    have HQ0 : Hid (Own w3 w.heap.size 3 Qb K K (iV (quoS p inv g f 0))) := hownQ.congr fun k _ => by unfold iV; rw [quoS_zero]
    have HB0 : Hid (Below w.heap.size w w3) := hb1.trans (hb13.mono hb1.size)
    clear hownQ hg3 hown hb1 hcg1 hOR1 hb13 hQb hQb2 hcg
    go_loopw [12] (fun vx wr => ∃ t : Nat, vx = .int .i64 ((K : Int) - 1 - t) ∧ t ≤ K ∧ Hid (Own wr w.heap.size 3 R nf cR (iV (rdn p inv g (co f) K t))) ∧ Hid (Own wr w.heap.size 3 Qb K K (iV (quoS p inv g f t))) ∧ Hid (Below w.heap.size w wr)) (fun vx _ => (intOf vx + 1).toNat)
    case atStart => exact ⟨0, by simp, by omega, HR0, HQ0, HB0⟩
    case round =>
      obtain ⟨t, rfl, htK, hR, hQ, hb⟩ := hrel
      by_cases ht1 : t < K
      · obtain ⟨k, hk⟩ : ∃ k, K - 1 - t = k := ⟨_, rfl⟩
        have hki : (K : Int) - 1 - t = (k : Int) := by omega
        rw [hki]
        have k0 : (0 : Int) ≤ k := by omega
        have k1 : (k : Int) < K := by omega
        have kw : IntKind.i64.wrap ((k : Int) - 1) = (k : Int) - 1 := IntWalk.i64_in _ (by omega)
        obtain ⟨m, hm⟩ : ∃ m, k + ng - 1 = m := ⟨_, rfl⟩
        have hmn : m < nf := by have := hKn.out; omega
        have wkn : IntKind.i64.wrap ((k : Int) + ng) = (k : Int) + ng := IntWalk.i64_in _ (by omega)
        have wkm : IntKind.i64.wrap ((k : Int) + ng - 1) = (m : Int) := by rw [show (k : Int) + ng - 1 = m by omega]; exact IntWalk.i64_in _ (by omega)
        have m0 : (0 : Int) ≤ m := by omega
        have m1 : (m : Int) < nf := by omega
        obtain ⟨s, hs⟩ : ∃ s, rdn p inv g (co f) K t m = s := ⟨_, rfl⟩
        have hsb := rdn_bd' HD.out hp2 K t m hs
        have c3 := hR.out.cell hmn
        unfold iV at c3
        rw [hs] at c3
        have hx := mul_bd hsb.1 hsb.2 hi0 (show inv ≤ 996 by omega)
        obtain ⟨x, hxe⟩ : ∃ x, s * inv = x := ⟨_, rfl⟩
        rw [hxe] at hx
        have wx : IntKind.i64.wrap x = x := IntWalk.i64_in _ (by omega)
        obtain ⟨c, hc⟩ : ∃ c, x % p = c := ⟨_, rfl⟩
        have hp0 : ¬ p = 0 := by omega
        have hct : Int.tmod x p = c := by rw [Int.tmod_eq_emod_of_nonneg (by omega)]; exact hc
        have hcb : 0 ≤ c ∧ c < p := by rw [← hc]; exact ⟨Int.emod_nonneg _ hp0, Int.emod_lt_of_pos _ (by omega)⟩
        have wc : IntKind.i64.wrap c = c := IntWalk.i64_in _ (by omega)
        have wpc : IntKind.i64.wrap (p - c) = p - c := IntWalk.i64_in _ (by omega)
        have HC : Hid (c = rdn p inv g (co f) K t (K - 1 - t + g.length - 1) * inv % p) := by
          show _ = _
          rw [hk, HLG.out, hm, hs, hxe, hc]
        have hkK : k < K := by omega
        have cq := hQ.out.cell hkK
        have fq := hQ.out.frozen k
        have st := hQ.out.store k (.int .i64 c)
        have HQ1 := Lib.hid (st.1.congr (f' := iV (quoS p inv g f (t + 1))) fun i _ => by
          unfold iV
          rw [quoS_step t i (by rw [HK.out]; exact ht1), HK.out, hk]
          by_cases hi : i = k
          · rw [if_pos hi, if_pos hi, HC.out, hk]
          · rw [if_neg hi, if_neg hi])
        have HR1 : Hid (Own (wr.setCell ⟨Qb, k, none⟩ (.int .i64 c)) w.heap.size 3 R nf cR (iV (remS p c (rdn p inv g (co f) K t) g k 0))) :=
          (hR.out.kept st.2 hRQ).congr fun i _ => by unfold iV; rw [remS_zero]
        have HB1 := Lib.hid (hQ.out.belowStore hb.out (Nat.le_refl _) k (.int .i64 c))
        have HK1 := Lib.hid hk
        have HKI : Hid ((K : Int) - 1 - (t + 1 : Nat) = (k : Int) - 1) := by show _ = _; omega
        have htK2 : t + 1 ≤ K := by omega
        have HKn2 : Hid (k + ng ≤ nf) := by show _ ≤ _; have := hKn.out; omega
        clear st hs hc hm hk hki
        go_wp2_with fail
        go_loopw [62] (fun vy wi => ∃ i : Nat, vy = .int .i64 i ∧ i ≤ ng ∧ Hid (Own wi w.heap.size 3 R nf cR (iV (remS p c (rdn p inv g (co f) K t) g k i))) ∧ Hid (Own wi w.heap.size 3 Qb K K (iV (quoS p inv g f (t + 1)))) ∧ Hid (Below w.heap.size w wi)) (fun vy _ => ng - (intOf vy).toNat)
        case atStart => exact ⟨0, rfl, by omega, HR1, HQ1, HB1⟩
        case round =>
          obtain ⟨i, rfl, hin, hR2, hQ2, hb2⟩ := hrel
          by_cases hi1' : i < ng
          · obtain ⟨bb, hbj⟩ : ∃ b, co g i = b := ⟨_, rfl⟩
            obtain ⟨b2, o2, ha2, c2⟩ := (hG.out.below hb2.out) i (.int .i64 bb) (by rw [List.getElem?_map, co_some (by rw [HLG.out]; exact hi1'), hbj]; rfl)
            injection ha2 with ha2
            injection ha2 with e1 e2
            subst e1 e2
            have hb1' := HD.out.hg.co (by omega) i
            rw [hbj] at hb1'
            obtain ⟨m, hm⟩ : ∃ m, k + i = m := ⟨_, rfl⟩
            have hmi : (k : Int) + i = m := by omega
            have hmn2 : m < nf := by have := HKn2.out; omega
            have m02 : (0 : Int) ≤ m := by omega
            have m12 : (m : Int) < nf := by omega
            have wm : IntKind.i64.wrap (m : Int) = m := IntWalk.i64_in _ (by omega)
            obtain ⟨s2, hs⟩ : ∃ s, rdn p inv g (co f) K t m = s := ⟨_, rfl⟩
            have hsb2 := rdn_bd' HD.out hp2 K t m hs
            have hat : remS p c (rdn p inv g (co f) K t) g k i m = s2 := by rw [← hm, remS_at, hm, hs]
            have c4 := hR2.out.cell hmn2
            have f4 := hR2.out.frozen m
            unfold iV at c4
            rw [hat] at c4
            have hy := mul_bd (show 0 ≤ p - c by omega) (show p - c ≤ 997 by omega) hb1'.1 (show bb ≤ 997 by omega)
            obtain ⟨y, hye⟩ : ∃ y, (p - c) * bb = y := ⟨_, rfl⟩
            rw [hye] at hy
            have wy : IntKind.i64.wrap y = y := IntWalk.i64_in _ (by omega)
            have wsy : IntKind.i64.wrap (s2 + y) = s2 + y := IntWalk.i64_in _ (by omega)
            obtain ⟨r, hr⟩ : ∃ r, (s2 + y) % p = r := ⟨_, rfl⟩
            have hrt : Int.tmod (s2 + y) p = r := by rw [Int.tmod_eq_emod_of_nonneg (by omega)]; exact hr
            have wr1 : IntKind.i64.wrap r = r := IntWalk.i64_in _ (by have h1 := Int.emod_nonneg (s2 + y) hp0; have h2 := Int.emod_lt_of_pos (s2 + y) (show 0 < p by omega); omega)
            have st := hR2.out.store m (.int .i64 r)
            have HR3 := Lib.hid (st.1.congr (f' := iV (remS p c (rdn p inv g (co f) K t) g k (i + 1))) fun a _ => by
              unfold iV
              rw [remS_step, hm, hs, hbj, hye, hr]
              by_cases ha : a = m
              · rw [if_pos ha, if_pos ha]
              · rw [if_neg ha, if_neg ha])
            have HQ3 := Lib.hid (hQ2.out.kept st.2 (fun h => hRQ h.symm))
            have HB3 := Lib.hid (hR2.out.belowStore hb2.out (Nat.le_refl _) m (.int .i64 r))
            clear st hs hbj hm hat
            go_wp2_with fail
            go_roundw
            case rel => exact ⟨i + 1, by go_num, by omega, HR3, HQ3, HB3⟩
            case measure => simp [intOf]; omega
          · have HR3 := Lib.hid (hR2.out.congr (f' := iV (rdn p inv g (co f) K (t + 1))) fun a _ => by
              have hin2 : i = g.length := by rw [HLG.out]; omega
              unfold iV
              rw [← remS_full HD.out, hin2, HC.out, HK1.out])
            go_wp2_with fail
            go_roundw
            case rel => exact ⟨t + 1, by rw [HKI.out], htK2, HR3, hQ2, hb2⟩
            case measure => simp [intOf]
      · obtain rfl : t = K := by omega
        have hneg : ¬ (0 : Int) ≤ (t : Int) - 1 - t := by omega
        have hRr : Hid (Reads wr (some ⟨R, 0, none⟩) ((mkL nf (rdn p inv g (co f) t t)).map (Value.int .i64))) := by
          show Reads _ _ _
          rw [map_mkL]; exact hR.out.reads
        have hQr : Hid (Reads wr (some ⟨Qb, 0, none⟩) ((mkL t (quo p inv g f)).map (Value.int .i64))) := by
          show Reads _ _ _
          rw [map_mkL]
          exact (hQ.out.congr fun k hk => by unfold iV quoS; rw [if_pos (by rw [HK.out]; omega)]).reads
        obtain ⟨hc1, hc2⟩ := own_cap hR.out
        have hz1 : t ≤ 1000000000 := by omega
        have hz2 : t ≤ 9223372036854775807 := by omega
        have hnq : ∀ m n : Nat, some (⟨Qb, 0, none⟩ : Addr) = none → m = 0 ∧ n = 0 := fun m n h => by cases h
        go_wp2_with (first | (go_at_call 97; (with_reducible refine (poly_Trim (mkL t (quo p inv g f)) t (some ⟨Qb, 0, none⟩) t wr.heap.size _ hz1 (mkL_length _ _) (Nat.le_refl _) hz2 (hnq _ _) hQr (Nat.le_refl _)).mono ?_); rintro e w4 ⟨vq, rfl, hq1, hq2⟩; have HR4 := Lib.hid (hRr.out.below hq2)) | (go_at_call 97; refine (poly_Trim (mkL nf (rdn p inv g (co f) t t)) nf (some ⟨R, 0, none⟩) cR w4.heap.size _ (by omega) (mkL_length _ _) hc1 hc2 (fun h => by cases h) HR4 (Nat.le_refl _)).mono ?_; rintro e w5 ⟨vr, rfl, hr1, hr2⟩))
        go_ret2
        refine ⟨_, _, vq, vr, ⟨trm_trim _, fun k => ?_⟩, ⟨trm_trim _, fun k => ?_⟩, hb.out.trans ((hq2.trans (hr2.mono hq2.size)).mono hb.out.size), rfl, own_mono (own_below hq1 hr2) hb.out.size, own_mono hr1 (Nat.le_trans hb.out.size hq2.size)⟩
        · rw [co_trim, co_mkL]
          split
          · rfl
          · unfold quo; rw [if_neg (by rw [HK.out]; omega)]
        · rw [co_trim, co_mkL, HK.out]
          split
          · rfl
          · have h := rdn_top HD.out t (by rw [HK.out]; exact Nat.le_refl _) k (by rw [HK.out, HLG.out]; have := hKn.out; omega)
            rw [HK.out] at h
            exact h.symm
end Go.Proofs.Ytmeffbooabionaa
