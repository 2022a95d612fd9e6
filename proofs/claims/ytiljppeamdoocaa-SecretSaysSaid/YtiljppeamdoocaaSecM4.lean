/- poly.Divided. -/
import Derived.Test.YtiljppeamdoocaaSecM2
import Derived.Test.YtiljppeamdoocaaSecM3
import Derived.Test.YtiljppeamdoocaaSecM1
namespace Go.Proofs.Ytiljppeamdoocaa
open Go.RowKit

def remS (p c : Int) (S : Nat → Int) (g : List Int) (k j i : Nat) : Int := if k ≤ i ∧ i < k + j then (S i - c * co g (i - k)) % p else S i
theorem remS_zero (p c : Int) (S : Nat → Int) (g : List Int) (k i : Nat) : remS p c S g k 0 i = S i := by unfold remS; rw [if_neg (by omega)]
theorem remS_step (p c : Int) (S : Nat → Int) (g : List Int) (k j i : Nat) : remS p c S g k (j + 1) i = if i = k + j then (S (k + j) + (p - c) * co g j) % p else remS p c S g k j i := by
  unfold remS
  by_cases h : i = k + j
  · subst h
    rw [if_pos rfl, if_pos (by omega), Nat.add_sub_cancel_left]
    have e : S (k + j) + (p - c) * co g j = (S (k + j) - c * co g j) + p * co g j := by grind
    rw [e, Int.add_mul_emod_self_left]
  · rw [if_neg h]
    by_cases h2 : k ≤ i ∧ i < k + j
    · rw [if_pos h2, if_pos (by omega)]
    · rw [if_neg h2, if_neg (by omega)]
theorem remS_at (p c : Int) (S : Nat → Int) (g : List Int) (k j : Nat) : remS p c S g k j (k + j) = S (k + j) := by unfold remS; rw [if_neg (by omega)]
theorem sub_mul_mod (s c t p : Int) : (s - c % p * t) % p = (s - c * t) % p := by
  have hm : c = c % p + p * (c / p) := (Int.emod_add_mul_ediv c p).symm
  have e : s - c * t = (s - c % p * t) + p * (-(c / p) * t) := by
    generalize c % p = m at hm ⊢
    generalize c / p = d at hm ⊢
    subst hm
    grind
  rw [e, Int.add_mul_emod_self_left]
theorem remS_full {p inv : Int} {g f : List Int} (D : DivOk p inv g f) (K t i : Nat) :
    remS p (rdn p inv g (co f) K t (K - 1 - t + g.length - 1) * inv % p) (rdn p inv g (co f) K t) g (K - 1 - t) g.length i = rdn p inv g (co f) K (t + 1) i := by
  show _ = (rdn p inv g (co f) K t i - rdn p inv g (co f) K t (K - 1 - t + g.length - 1) * inv * sh g (K - 1 - t) i) % p
  unfold remS
  by_cases h : K - 1 - t ≤ i ∧ i < K - 1 - t + g.length
  · rw [if_pos h, sub_mul_mod]
    congr 2
    unfold sh
    rw [if_pos h.1]
  · rw [if_neg h]
    have : sh g (K - 1 - t) i = 0 := by
      rcases Nat.lt_or_ge i (K - 1 - t) with h2 | h2
      · exact sh_lt g h2
      · exact sh_ge g (by omega)
    rw [this, Int.mul_zero, Int.sub_zero, rdn_mod D]
def quoS (p inv : Int) (g f : List Int) (t k : Nat) : Int := if KOf f g - t ≤ k then quo p inv g f k else 0
theorem quoS_zero {p inv : Int} {g f : List Int} (k : Nat) : quoS p inv g f 0 k = 0 := by
  unfold quoS quo
  split
  · rw [if_neg (by omega)]
  · rfl
theorem quoS_step {p inv : Int} {g f : List Int} (t k : Nat) (ht : t < KOf f g) : quoS p inv g f (t + 1) k = if k = KOf f g - 1 - t then rdn p inv g (co f) (KOf f g) t (KOf f g - 1 - t + g.length - 1) * inv % p else quoS p inv g f t k := by
  unfold quoS
  by_cases h : k = KOf f g - 1 - t
  · rw [if_pos h, if_pos (by omega)]
    unfold quo
    rw [if_pos (by omega), h, show KOf f g - 1 - (KOf f g - 1 - t) = t by omega]
  · rw [if_neg h]
    by_cases h2 : KOf f g - t ≤ k
    · rw [if_pos h2, if_pos (by omega)]
    · rw [if_neg h2, if_neg (by omega)]
/-- What Divided hands back. -/
def DivPost (p inv : Int) (f g : List Int) (w : World) (e : Ending) (w' : World) : Prop :=
  ∃ q r vq vr, (Trm q ∧ ∀ k, co q k = quo p inv g f k) ∧ (Trm r ∧ ∀ k, co r k = rdn p inv g (co f) (KOf f g) (KOf f g) k) ∧ Below w.heap.size w w' ∧ e = .returned (.tuple #[vq, vr]) ∧
    w'.ownsRow w.heap.size 3 1 vq q.length (q.map (Value.int .i64)) ∧ w'.ownsRow w.heap.size 3 1 vr r.length (r.map (Value.int .i64))
theorem own_data {w : World} {base e : Nat} {v : Value} {n : Nat} {xs : List Value} (h : w.ownsRow base e 1 v n xs) : ∃ ao cap, v = .slice ao n cap ∧ Reads w ao xs ∧ (ao = none → n = 0 ∧ cap = 0) ∧ n ≤ cap ∧ cap ≤ 9223372036854775807 := by
  obtain ⟨ao, cap, hv, hR, hn, _⟩ := own_reads h
  refine ⟨ao, cap, hv, hR, hn, ?_⟩
  rcases h.2 with ⟨h1, h2⟩ | ⟨g, cp, cur, hv3, h2⟩
  · rw [h1] at hv
    injection hv with e1 e2 e3
    omega
  · rw [hv3] at hv
    injection hv with e1 e2 e3
    have := h2.2.2.1
    have := h2.2.2.2.1
    unfold maxLen at *
    omega
theorem own_self {w : World} {base e g n cap : Nat} {f : List Int} (h : w.ownsRow base e 1 (.slice (some ⟨g, 0, none⟩) n cap) n (f.map (Value.int .i64))) (hl : f.length = n) : Own w base e g n cap (iV (co f)) := by
  unfold Own
  rw [map_iV, hl] at h
  exact h
theorem rdn_bd' {p inv : Int} {g f : List Int} (D : DivOk p inv g f) (hp : p ≤ 997) (K t j : Nat) {s : Int} (h : rdn p inv g (co f) K t j = s) : 0 ≤ s ∧ s ≤ 996 := by
  have := rdn_bd D K t j
  omega
theorem own_cap {w : World} {base e g n cap : Nat} {f : Nat → Value} (h : Own w base e g n cap f) : n ≤ cap ∧ cap ≤ 9223372036854775807 := by
  obtain ⟨ao, c, hv, _, _, h1, h2⟩ := own_data h
  injection hv with e1 e2 e3
  subst e3
  exact ⟨h1, h2⟩
set_option maxRecDepth 100000 in
set_option maxHeartbeats 4000000 in
theorem poly_Divided (p : Int) (f g : List Int) (nf ng : Nat) (ao bo : Option Addr) (ca cb : Nat) (w : World) (hp2 : p ≤ 997) (inv : Int) (hi0 : 0 ≤ inv) (hi1 : inv < p) (D : DivOk p inv g f) (hgi : gI (co g (g.length - 1) % p) p = 1) (hinv : bezX (co g (g.length - 1) % p) p = inv) (hlf : f.length = nf) (hlg : g.length = ng) (hnf : nf ≤ 1000000) (hng : ng ≤ 1000000)
    (hnone : ao = none → nf = 0 ∧ ca = 0) (hF : Hid (Reads w ao (f.map (Value.int .i64)))) (hG : Hid (Reads w bo (g.map (Value.int .i64)))) :
    Calls Try.prog 98 #[.int .i64 p, .slice ao nf ca, .slice bo ng cb] w (DivPost p inv f g w) := by
  have HD := Lib.hid D
  have HLF := Lib.hid hlf
  have HLG := Lib.hid hlg
  have HN := Lib.hid hnone
  have hn1 := D.hn
  have hp1 := D.hp
  obtain ⟨l, hl⟩ : ∃ l, co g (g.length - 1) = l := ⟨_, rfl⟩
  have hlb := D.hg.co (by omega) (g.length - 1)
  rw [hl] at hlb hgi hinv
  have CI := Lib.hid (fun w => rest_Inverse l p w (by omega) (by omega) (by omega) (by omega) hgi)
  rw [hinv] at CI
  obtain ⟨j, hj⟩ : ∃ j, ng - 1 = j := ⟨_, rfl⟩
  obtain ⟨b, o, rfl, hcg⟩ := hG.out j (.int .i64 l) (by rw [List.getElem?_map, co_some (by omega), ← hj, ← hlg, hl]; rfl)
  have hjw : IntKind.i64.wrap ((ng : Int) - 1) = j := by rw [show (ng : Int) - 1 = j by omega]; exact IntWalk.i64_in _ (by omega)
  have j0 : (0 : Int) ≤ j := by omega
  have j1 : (j : Int) < ng := by omega
  have HL : Hid (co g (g.length - 1) = l) := hl
  have hng0 : 1 ≤ ng := by omega
  have CC := Lib.hid (clone_int f nf ao ca w.heap.size w (by omega) hlf hnone hF (Nat.le_refl _))
  clear hgi hinv D hlf hlg hnone hl
  obtain ⟨K, hK⟩ : ∃ K, KOf f g = K := ⟨_, rfl⟩
  have HK := Lib.hid hK
  unfold KOf at hK
  rw [HLF.out, HLG.out] at hK
  by_cases hlt : nf < ng
  · obtain rfl : K = 0 := by omega
    have w1 : IntKind.i64.wrap ((nf : Int) - ng) = (nf : Int) - ng := IntWalk.i64_in _ (by omega)
    have w2 : IntKind.i64.wrap ((nf : Int) - ng + 1) = (nf : Int) - ng + 1 := IntWalk.i64_in _ (by omega)
    have w3 : IntKind.i64.wrap (-1 : Int) = -1 := IntWalk.i64_in _ (by omega)
    obtain ⟨d, hd⟩ : ∃ d, (nf : Int) - ng + 1 = d := ⟨_, rfl⟩
    rw [hd] at w2
    have hd0 : d ≤ 0 := by omega
    have hmin : (nf : Int) - ng + 1 = d := hd
    have hnn : Hid (∀ k, nf ≤ k → co f k = 0) := fun k hk => co_out (by rw [HLF.out]; exact hk)
    obtain ⟨E, hE⟩ : ∃ E : List Int, E = [] := ⟨_, rfl⟩
    have HE := Lib.hid hE
    have HEl : Hid (E.length = 0) := by show _ = _; rw [hE]; rfl
    clear hK hj hd hE
    rcases Int.lt_or_le d 0 with hdn | hdz
    all_goals
      go_enter Try.func98, Try.ntmps98
      go_wp2_with (first | (go_at_call 85; refine CC.out.mono ?_; rintro e w1 ⟨v, rfl, hown, hb1⟩; rw [HLF.out] at hown; obtain ⟨ro, cR, rfl, hRr, hrn, hc1, hc2⟩ := own_data hown; have hcg1 := (hb1.cell (World.block_lt_of_cell? w _ hcg)).trans hcg) | (go_at_call 80; refine (CI.out _).mono ?_; rintro e w2 ⟨rfl, m2, rfl⟩) | (at_make; refine make_own rfl _ _ 24 rfl w.heap.size 3 _ 8 Try.underlying24 intRow rfl _ _ _ _ 0 (by rfl) (by rfl) (by omega) (by omega) (by omega) (by unfold maxLen; omega) (by exact hb1.size) ?_; intro w3 hownQ hg3))
      have hb13 : Below w1.heap.size w1 w3 := (below_dr _ w1 m2).trans (below_of_grown hg3 (Nat.le_refl _) (by intro k hk; cases hk))
      have HB0 : Hid (Below w.heap.size w w3) := hb1.trans (hb13.mono hb1.size)
      have HRr := Lib.hid (hRr.below hb13)
      obtain ⟨Qb, hQb⟩ : ∃ q, w1.heap.size = q := ⟨_, rfl⟩
      have hQb2 : (w1.drewN m2).heap.size = Qb := hQb
      rw [hQb2] at hownQ
      rw [hQb]
      have hQr : Hid (Reads w3 (some ⟨Qb, 0, none⟩) (E.map (Value.int .i64))) := by show Reads _ _ _; rw [HE.out]; exact Reads.nil _ _
      clear hownQ hg3 hown hb1 hcg1 hb13 hQb hQb2 hcg hRr
      go_loopw [12] (fun vx wr => vx = .int .i64 (-1) ∧ wr = w3) (fun _ _ => 0)
      case atStart => exact ⟨by simp, rfl⟩
      case round =>
        obtain ⟨rfl, rfl⟩ := hrel
        have hz1 : 0 ≤ 1000000000 := by omega
        have hz2 : 0 ≤ 9223372036854775807 := by omega
        have hnq : ∀ m n : Nat, some (⟨Qb, 0, none⟩ : Addr) = none → m = 0 ∧ n = 0 := fun m n h => by cases h
        go_wp2_with (first | (go_at_call 76; (with_reducible refine (poly_Trim E 0 (some ⟨Qb, 0, none⟩) 0 wr.heap.size _ hz1 HEl.out (Nat.le_refl _) hz2 (hnq _ _) hQr (Nat.le_refl _)).mono ?_); rintro e w4 ⟨vq, rfl, hq1, hq2⟩; have HR4 := Lib.hid (HRr.out.below hq2)) | (go_at_call 76; refine (poly_Trim f nf ro cR w4.heap.size _ (by omega) HLF.out hc1 hc2 hrn HR4 (Nat.le_refl _)).mono ?_; rintro e w5 ⟨vr, rfl, hr1, hr2⟩))
        go_ret2
        refine ⟨_, _, vq, vr, ⟨trm_trim _, fun k => ?_⟩, ⟨trm_trim _, fun k => ?_⟩, HB0.out.trans ((hq2.trans (hr2.mono hq2.size)).mono HB0.out.size), rfl, own_mono (own_below hq1 hr2) HB0.out.size, own_mono hr1 (Nat.le_trans HB0.out.size hq2.size)⟩
        · rw [co_trim, HE.out, co_nil]
          unfold quo
          rw [if_neg (by rw [HK.out]; omega)]
        · rw [co_trim, HK.out]; rfl
  · obtain ⟨K', hK'⟩ : ∃ K', K = K' + 1 := ⟨K - 1, by omega⟩
    have w1 : IntKind.i64.wrap ((nf : Int) - ng) = (nf : Int) - ng := IntWalk.i64_in _ (by omega)
    have w2 : IntKind.i64.wrap ((nf : Int) - ng + 1) = (K : Int) := by rw [show (nf : Int) - ng + 1 = K by omega]; exact IntWalk.i64_in _ (by omega)
    have hmx : ¬ ((K : Int) < 0) := by omega
    have w3 : IntKind.i64.wrap ((K : Int) - 1) = (K : Int) - 1 := IntWalk.i64_in _ (by omega)
    have hKn : Hid (K + ng = nf + 1) := by show _ = _; omega
    have hKb : K ≤ 1000001 := by omega
    have HNE : Hid (f.map (Value.int .i64) ≠ []) := by
      show _ ≠ _
      intro h
      have := congrArg List.length h
      rw [List.length_map, HLF.out, List.length_nil] at this
      omega
    clear hK hK' hj
    go_enter Try.func98, Try.ntmps98
    go_wp2_with (first | (go_at_call 85; refine CC.out.mono ?_; rintro e w1 ⟨v, rfl, hown, hb1⟩; rw [HLF.out] at hown; obtain ⟨R, cR, rfl⟩ := own_form hown HNE.out; have hcg1 := (hb1.cell (World.block_lt_of_cell? w _ hcg)).trans hcg) | (go_at_call 80; refine (CI.out _).mono ?_; rintro e w2 ⟨rfl, m2, rfl⟩) | (at_make; refine make_own rfl _ _ 24 rfl w.heap.size 3 _ 8 Try.underlying24 intRow rfl _ _ _ _ K (by rfl) (by rfl) (by omega) (by omega) (by omega) (by unfold maxLen; omega) (by exact hb1.size) ?_; intro w3 hownQ hg3))
    obtain ⟨Qb, hQb⟩ : ∃ q, w1.heap.size = q := ⟨_, rfl⟩
    have hQb2 : (w1.drewN m2).heap.size = Qb := hQb
    rw [hQb2] at hownQ
    rw [hQb]
    have hOR1 := own_self hown HLF.out
    have hRQ : R ≠ Qb := by
      have := hOR1.lt.2
      have h2 : w1.heap.size = Qb := hQb
      omega
    have hb13 : Below w1.heap.size w1 w3 := (below_dr _ w1 m2).trans (below_of_grown hg3 (Nat.le_refl _) (by intro k hk; cases hk))
    have HR0 : Hid (Own w3 w.heap.size 3 R nf cR (iV (rdn p inv g (co f) K 0))) := hOR1.below hb13
    have HQ0 : Hid (Own w3 w.heap.size 3 Qb K K (iV (quoS p inv g f 0))) := hownQ.congr fun k _ => by unfold iV; rw [quoS_zero]
    have HB0 : Hid (Below w.heap.size w w3) := hb1.trans (hb13.mono hb1.size)
    clear hownQ hg3 hown hb1 hcg1 hOR1 hb13 hQb hQb2 hcg
    go_loopw [12] (fun vx wr => ∃ t : Nat, vx = .int .i64 ((K : Int) - 1 - t) ∧ t ≤ K ∧ Hid (Own wr w.heap.size 3 R nf cR (iV (rdn p inv g (co f) K t))) ∧ Hid (Own wr w.heap.size 3 Qb K K (iV (quoS p inv g f t))) ∧ Hid (Below w.heap.size w wr)) (fun vx _ => (intOf vx + 1).toNat)
    case atStart => exact ⟨0, by simp, by omega, HR0, HQ0, HB0⟩
    case round =>
      obtain ⟨t, rfl, htK, hR, hQ, hb⟩ := hrel
      by_cases ht1 : t < K
      · obtain ⟨k, hk⟩ : ∃ k, K - 1 - t = k := ⟨_, rfl⟩
        have hki : (K : Int) - 1 - t = (k : Int) := by omega
        rw [hki]
        have k0 : (0 : Int) ≤ k := by omega
        have k1 : (k : Int) < K := by omega
        have kw : IntKind.i64.wrap ((k : Int) - 1) = (k : Int) - 1 := IntWalk.i64_in _ (by omega)
        obtain ⟨m, hm⟩ : ∃ m, k + ng - 1 = m := ⟨_, rfl⟩
        have hmn : m < nf := by have := hKn.out; omega
        have wkn : IntKind.i64.wrap ((k : Int) + ng) = (k : Int) + ng := IntWalk.i64_in _ (by omega)
        have wkm : IntKind.i64.wrap ((k : Int) + ng - 1) = (m : Int) := by rw [show (k : Int) + ng - 1 = m by omega]; exact IntWalk.i64_in _ (by omega)
        have m0 : (0 : Int) ≤ m := by omega
        have m1 : (m : Int) < nf := by omega
        obtain ⟨s, hs⟩ : ∃ s, rdn p inv g (co f) K t m = s := ⟨_, rfl⟩
        have hsb := rdn_bd' HD.out hp2 K t m hs
        have c3 := hR.out.cell hmn
        unfold iV at c3
        rw [hs] at c3
        have hx := mul_bd hsb.1 hsb.2 hi0 (show inv ≤ 996 by omega)
        obtain ⟨x, hxe⟩ : ∃ x, s * inv = x := ⟨_, rfl⟩
        rw [hxe] at hx
        have wx : IntKind.i64.wrap x = x := IntWalk.i64_in _ (by omega)
        obtain ⟨c, hc⟩ : ∃ c, x % p = c := ⟨_, rfl⟩
        have hp0 : ¬ p = 0 := by omega
        have hct : Int.tmod x p = c := by rw [Int.tmod_eq_emod_of_nonneg (by omega)]; exact hc
        have hcb : 0 ≤ c ∧ c < p := by rw [← hc]; exact ⟨Int.emod_nonneg _ hp0, Int.emod_lt_of_pos _ (by omega)⟩
        have wc : IntKind.i64.wrap c = c := IntWalk.i64_in _ (by omega)
        have wpc : IntKind.i64.wrap (p - c) = p - c := IntWalk.i64_in _ (by omega)
        have HC : Hid (c = rdn p inv g (co f) K t (K - 1 - t + g.length - 1) * inv % p) := by
          show _ = _
          rw [hk, HLG.out, hm, hs, hxe, hc]
        have hkK : k < K := by omega
        have cq := hQ.out.cell hkK
        have fq := hQ.out.frozen k
        have st := hQ.out.store k (.int .i64 c)
        have HQ1 := Lib.hid (st.1.congr (f' := iV (quoS p inv g f (t + 1))) fun i _ => by
          unfold iV
          rw [quoS_step t i (by rw [HK.out]; exact ht1), HK.out, hk]
          by_cases hi : i = k
          · rw [if_pos hi, if_pos hi, HC.out, hk]
          · rw [if_neg hi, if_neg hi])
        have HR1 : Hid (Own (wr.setCell ⟨Qb, k, none⟩ (.int .i64 c)) w.heap.size 3 R nf cR (iV (remS p c (rdn p inv g (co f) K t) g k 0))) :=
          (hR.out.kept st.2 hRQ).congr fun i _ => by unfold iV; rw [remS_zero]
        have HB1 := Lib.hid (hQ.out.belowStore hb.out (Nat.le_refl _) k (.int .i64 c))
        have HK1 := Lib.hid hk
        have HKI : Hid ((K : Int) - 1 - (t + 1 : Nat) = (k : Int) - 1) := by show _ = _; omega
        have htK2 : t + 1 ≤ K := by omega
        have HKn2 : Hid (k + ng ≤ nf) := by show _ ≤ _; have := hKn.out; omega
        clear st hs hc hm hk hki
        go_wp2_with fail
        go_loopw [62] (fun vy wi => ∃ i : Nat, vy = .int .i64 i ∧ i ≤ ng ∧ Hid (Own wi w.heap.size 3 R nf cR (iV (remS p c (rdn p inv g (co f) K t) g k i))) ∧ Hid (Own wi w.heap.size 3 Qb K K (iV (quoS p inv g f (t + 1)))) ∧ Hid (Below w.heap.size w wi)) (fun vy _ => ng - (intOf vy).toNat)
        case atStart => exact ⟨0, rfl, by omega, HR1, HQ1, HB1⟩
        case round =>
          obtain ⟨i, rfl, hin, hR2, hQ2, hb2⟩ := hrel
          by_cases hi1' : i < ng
          · obtain ⟨bb, hbj⟩ : ∃ b, co g i = b := ⟨_, rfl⟩
            obtain ⟨b2, o2, ha2, c2⟩ := (hG.out.below hb2.out) i (.int .i64 bb) (by rw [List.getElem?_map, co_some (by rw [HLG.out]; exact hi1'), hbj]; rfl)
            injection ha2 with ha2
            injection ha2 with e1 e2
            subst e1 e2
            have hb1' := HD.out.hg.co (by omega) i
            rw [hbj] at hb1'
            obtain ⟨m, hm⟩ : ∃ m, k + i = m := ⟨_, rfl⟩
            have hmi : (k : Int) + i = m := by omega
            have hmn2 : m < nf := by have := HKn2.out; omega
            have m02 : (0 : Int) ≤ m := by omega
            have m12 : (m : Int) < nf := by omega
            have wm : IntKind.i64.wrap (m : Int) = m := IntWalk.i64_in _ (by omega)
            obtain ⟨s2, hs⟩ : ∃ s, rdn p inv g (co f) K t m = s := ⟨_, rfl⟩
            have hsb2 := rdn_bd' HD.out hp2 K t m hs
            have hat : remS p c (rdn p inv g (co f) K t) g k i m = s2 := by rw [← hm, remS_at, hm, hs]
            have c4 := hR2.out.cell hmn2
            have f4 := hR2.out.frozen m
            unfold iV at c4
            rw [hat] at c4
            have hy := mul_bd (show 0 ≤ p - c by omega) (show p - c ≤ 997 by omega) hb1'.1 (show bb ≤ 997 by omega)
            obtain ⟨y, hye⟩ : ∃ y, (p - c) * bb = y := ⟨_, rfl⟩
            rw [hye] at hy
            have wy : IntKind.i64.wrap y = y := IntWalk.i64_in _ (by omega)
            have wsy : IntKind.i64.wrap (s2 + y) = s2 + y := IntWalk.i64_in _ (by omega)
            obtain ⟨r, hr⟩ : ∃ r, (s2 + y) % p = r := ⟨_, rfl⟩
            have hrt : Int.tmod (s2 + y) p = r := by rw [Int.tmod_eq_emod_of_nonneg (by omega)]; exact hr
            have wr1 : IntKind.i64.wrap r = r := IntWalk.i64_in _ (by have h1 := Int.emod_nonneg (s2 + y) hp0; have h2 := Int.emod_lt_of_pos (s2 + y) (show 0 < p by omega); omega)
            have st := hR2.out.store m (.int .i64 r)
            have HR3 := Lib.hid (st.1.congr (f' := iV (remS p c (rdn p inv g (co f) K t) g k (i + 1))) fun a _ => by
              unfold iV
              rw [remS_step, hm, hs, hbj, hye, hr]
              by_cases ha : a = m
              · rw [if_pos ha, if_pos ha]
              · rw [if_neg ha, if_neg ha])
            have HQ3 := Lib.hid (hQ2.out.kept st.2 (fun h => hRQ h.symm))
            have HB3 := Lib.hid (hR2.out.belowStore hb2.out (Nat.le_refl _) m (.int .i64 r))
            clear st hs hbj hm hat
            go_wp2_with fail
            go_roundw
            case rel => exact ⟨i + 1, by go_num, by omega, HR3, HQ3, HB3⟩
            case measure => simp [intOf]; omega
          · have HR3 := Lib.hid (hR2.out.congr (f' := iV (rdn p inv g (co f) K (t + 1))) fun a _ => by
              have hin2 : i = g.length := by rw [HLG.out]; omega
              unfold iV
              rw [← remS_full HD.out, hin2, HC.out, HK1.out])
            go_wp2_with fail
            go_roundw
            case rel => exact ⟨t + 1, by rw [HKI.out], htK2, HR3, hQ2, hb2⟩
            case measure => simp [intOf]
      · obtain rfl : t = K := by omega
        have hneg : ¬ (0 : Int) ≤ (t : Int) - 1 - t := by omega
        have hRr : Hid (Reads wr (some ⟨R, 0, none⟩) ((mkL nf (rdn p inv g (co f) t t)).map (Value.int .i64))) := by
          show Reads _ _ _
          rw [map_mkL]; exact hR.out.reads
        have hQr : Hid (Reads wr (some ⟨Qb, 0, none⟩) ((mkL t (quo p inv g f)).map (Value.int .i64))) := by
          show Reads _ _ _
          rw [map_mkL]
          exact (hQ.out.congr fun k hk => by unfold iV quoS; rw [if_pos (by rw [HK.out]; omega)]).reads
        obtain ⟨hc1, hc2⟩ := own_cap hR.out
        have hz1 : t ≤ 1000000000 := by omega
        have hz2 : t ≤ 9223372036854775807 := by omega
        have hnq : ∀ m n : Nat, some (⟨Qb, 0, none⟩ : Addr) = none → m = 0 ∧ n = 0 := fun m n h => by cases h
        go_wp2_with (first | (go_at_call 76; (with_reducible refine (poly_Trim (mkL t (quo p inv g f)) t (some ⟨Qb, 0, none⟩) t wr.heap.size _ hz1 (mkL_length _ _) (Nat.le_refl _) hz2 (hnq _ _) hQr (Nat.le_refl _)).mono ?_); rintro e w4 ⟨vq, rfl, hq1, hq2⟩; have HR4 := Lib.hid (hRr.out.below hq2)) | (go_at_call 76; refine (poly_Trim (mkL nf (rdn p inv g (co f) t t)) nf (some ⟨R, 0, none⟩) cR w4.heap.size _ (by omega) (mkL_length _ _) hc1 hc2 (fun h => by cases h) HR4 (Nat.le_refl _)).mono ?_; rintro e w5 ⟨vr, rfl, hr1, hr2⟩))
        go_ret2
        refine ⟨_, _, vq, vr, ⟨trm_trim _, fun k => ?_⟩, ⟨trm_trim _, fun k => ?_⟩, hb.out.trans ((hq2.trans (hr2.mono hq2.size)).mono hb.out.size), rfl, own_mono (own_below hq1 hr2) hb.out.size, own_mono hr1 (Nat.le_trans hb.out.size hq2.size)⟩
        · rw [co_trim, co_mkL]
          split
          · rfl
          · unfold quo; rw [if_neg (by rw [HK.out]; omega)]
        · rw [co_trim, co_mkL, HK.out]
          split
          · rfl
          · have h := rdn_top HD.out t (by rw [HK.out]; exact Nat.le_refl _) k (by rw [HK.out, HLG.out]; have := hKn.out; omega)
            rw [HK.out] at h
            exact h.symm
end Go.Proofs.Ytiljppeamdoocaa
namespace Go.Proofs.Ytiljppeamdoocaa

def prodPow : List (Nat × Nat) → Nat
  | [] => 1
  | a :: l => a.1 ^ a.2 * prodPow l
theorem prodPow_append (l m : List (Nat × Nat)) : prodPow (l ++ m) = prodPow l * prodPow m := by
  induction l with
  | nil => simp [prodPow]
  | cons a l ih => simp [prodPow, ih, Nat.mul_assoc]
/-- The prime factors of n: primes that grow, each at least once, n multiplied. -/
structure Factors (n : Nat) (l : List (Nat × Nat)) : Prop where
  prod : prodPow l = n
  inc : l.Pairwise (fun a b => a.1 < b.1)
  pr : ∀ a ∈ l, IsPr a.1 ∧ 1 ≤ a.2
/-- What the rounds keep. -/
structure Fac (n m d : Nat) (l : List (Nat × Nat)) : Prop where
  prod : prodPow l * m = n
  inc : l.Pairwise (fun a b => a.1 < b.1)
  pr : ∀ a ∈ l, IsPr a.1 ∧ 1 ≤ a.2 ∧ a.1 < d
  nod : NoDiv m d
  m1 : 1 ≤ m
theorem Fac.start (n : Nat) (h : 1 ≤ n) : Fac n n 2 [] := ⟨by simp [prodPow], List.Pairwise.nil, by simp, NoDiv.start n, h⟩
theorem Fac.last {n d : Nat} {l : List (Nat × Nat)} (h : Fac n 1 d l) : Factors n l :=
  ⟨by have := h.prod; omega, h.inc, fun a ha => ⟨(h.pr a ha).1, (h.pr a ha).2.1⟩⟩
/-- Where no square is left, the number itself is the next one. -/
theorem Fac.jump {n m d : Nat} {l : List (Nat × Nat)} (h : Fac n m d l) (h2 : 2 ≤ m) (hs : m < d * d) : Fac n m m l := by
  have hp := h.nod.prime h2 hs
  have hd := h.nod.ge h2
  exact ⟨h.prod, h.inc, fun a ha => ⟨(h.pr a ha).1, (h.pr a ha).2.1, by have := (h.pr a ha).2.2; omega⟩, fun e h1 h3 h4 => hp.2 e h1 h3 h4, h.m1⟩
theorem Fac.skip {n m d : Nat} {l : List (Nat × Nat)} (h : Fac n m d l) (hd : ¬ d ∣ m) : Fac n m (d + 1) l :=
  ⟨h.prod, h.inc, fun a ha => ⟨(h.pr a ha).1, (h.pr a ha).2.1, by have := (h.pr a ha).2.2; omega⟩, h.nod.next hd, h.m1⟩
theorem Fac.take {n m d k m2 : Nat} {l : List (Nat × Nat)} (h : Fac n m d l) (h2 : 2 ≤ d) (hk : 1 ≤ k) (he : d ^ k * m2 = m) (hn : ¬ d ∣ m2) : Fac n m2 (d + 1) (l ++ [(d, k)]) := by
  have hdm : d ∣ m := by
    rw [← he]
    refine ⟨d ^ (k - 1) * m2, ?_⟩
    rw [← Nat.mul_assoc, Nat.mul_comm d, ← Nat.pow_succ]
    congr 2; omega
  have hpd := h.nod.divisor h2 hdm
  refine ⟨?_, ?_, ?_, (h.nod.of_dvd ⟨d ^ k, by rw [← he, Nat.mul_comm]⟩).next hn, ?_⟩
  · rw [prodPow_append]; simp only [prodPow, Nat.mul_one]; rw [Nat.mul_assoc, he]; exact h.prod
  · rw [List.pairwise_append]
    refine ⟨h.inc, by simp, fun a ha b hb => ?_⟩
    simp at hb; subst hb
    exact (h.pr a ha).2.2
  · intro a ha
    rw [List.mem_append] at ha
    rcases ha with ha | ha
    · exact ⟨(h.pr a ha).1, (h.pr a ha).2.1, by have := (h.pr a ha).2.2; omega⟩
    · simp at ha; subst ha
      exact ⟨hpd, hk, Nat.lt_succ_self _⟩
  · rcases Nat.eq_zero_or_pos m2 with h0 | h0
    · subst h0; simp at he; have := h.m1; omega
    · exact h0
theorem quo_step {d m m2 k : Nat} (h : d ^ k * m2 = m) (hd : d ∣ m2) : d ^ (k + 1) * (m2 / d) = m := by
  rw [Nat.pow_succ, Nat.mul_assoc, Nat.mul_div_cancel' hd, h]
end Go.Proofs.Ytiljppeamdoocaa
namespace Go.Proofs.Ytiljppeamdoocaa

/-- Two lists that grow and hold the same numbers are one. -/
theorem sorted_ext : ∀ {l m : List Nat}, l.Pairwise (· < ·) → m.Pairwise (· < ·) → (∀ x, x ∈ l ↔ x ∈ m) → l = m := by
  intro l
  induction l with
  | nil =>
    intro m _ _ h
    cases m with
    | nil => rfl
    | cons b m => exact absurd ((h b).2 (List.mem_cons_self ..)) (by simp)
  | cons a l ih =>
    intro m hl hm h
    cases m with
    | nil => exact absurd ((h a).1 (List.mem_cons_self ..)) (by simp)
    | cons b m =>
      rw [List.pairwise_cons] at hl hm
      have hab : a = b := by
        have h1 := (h a).1 (List.mem_cons_self ..)
        have h2 := (h b).2 (List.mem_cons_self ..)
        rw [List.mem_cons] at h1 h2
        rcases h1 with h1 | h1
        · exact h1
        · rcases h2 with h2 | h2
          · exact h2.symm
          · have := hm.1 a h1; have := hl.1 b h2; omega
      subst hab
      congr 1
      refine ih hl.2 hm.2 fun x => ?_
      have hx := h x
      rw [List.mem_cons, List.mem_cons] at hx
      constructor
      · intro hxl
        rcases hx.1 (.inr hxl) with h1 | h1
        · subst h1; exact absurd (hl.1 x hxl) (Nat.lt_irrefl _)
        · exact h1
      · intro hxm
        rcases hx.2 (.inr hxm) with h1 | h1
        · subst h1; exact absurd (hm.1 x hxm) (Nat.lt_irrefl _)
        · exact h1
def divp (n d : Nat) : Bool := decide (1 ≤ d ∧ d ∣ n)
/-- The divisors of n, in order. -/
def divs (n : Nat) : List Nat := (List.range (n + 1)).filter (divp n)
theorem mem_divs {n d : Nat} (hn : 1 ≤ n) : d ∈ divs n ↔ 1 ≤ d ∧ d ∣ n := by
  simp only [divs, List.mem_filter, List.mem_range, divp, decide_eq_true_eq]
  constructor
  · exact fun h => h.2
  · exact fun h => ⟨by have := Nat.le_of_dvd (by omega) h.2; omega, h⟩
theorem range_sorted (k : Nat) : (List.range k).Pairwise (· < ·) := List.pairwise_lt_range
theorem divs_sorted (n : Nat) : (divs n).Pairwise (· < ·) := (range_sorted _).filter _
/-- The divisors below k. -/
def lows (n k : Nat) : List Nat := (List.range k).filter (divp n)
def highs (n k : Nat) : List Nat := ((lows n k).filter fun d => decide (d * d < n)).map fun d => n / d
theorem mem_lows {n k d : Nat} : d ∈ lows n k ↔ d < k ∧ 1 ≤ d ∧ d ∣ n := by simp [lows, divp]
theorem mem_highs {n k e : Nat} : e ∈ highs n k ↔ ∃ d, d < k ∧ 1 ≤ d ∧ d ∣ n ∧ d * d < n ∧ n / d = e := by
  simp only [highs, List.mem_map, List.mem_filter, mem_lows, decide_eq_true_eq]
  constructor
  · rintro ⟨d, ⟨⟨h1, h2, h3⟩, h4⟩, h5⟩; exact ⟨d, h1, h2, h3, h4, h5⟩
  · rintro ⟨d, h1, h2, h3, h4, h5⟩; exact ⟨d, ⟨⟨h1, h2, h3⟩, h4⟩, h5⟩
theorem lows_succ (n k : Nat) (h : divp n k = true) : lows n (k + 1) = lows n k ++ [k] := by
  unfold lows; rw [List.range_succ, List.filter_append]; simp [h]
theorem lows_skip (n k : Nat) (h : divp n k = false) : lows n (k + 1) = lows n k := by
  unfold lows; rw [List.range_succ, List.filter_append]; simp [h]
theorem highs_succ (n k : Nat) (h : divp n k = true) (h2 : k * k < n) : highs n (k + 1) = highs n k ++ [n / k] := by
  unfold highs; rw [lows_succ n k h, List.filter_append, List.map_append]; simp [h2]
theorem highs_same (n k : Nat) (h : divp n k = true) (h2 : ¬ k * k < n) : highs n (k + 1) = highs n k := by
  unfold highs; rw [lows_succ n k h, List.filter_append, List.map_append]; simp [h2]
theorem highs_skip (n k : Nat) (h : divp n k = false) : highs n (k + 1) = highs n k := by unfold highs; rw [lows_skip n k h]
theorem quo_lt {n d e : Nat} (hn : 1 ≤ n) (hd : 1 ≤ d) (h1 : d ∣ n) (h2 : e ∣ n) (h : d < e) : n / e < n / d := by
  obtain ⟨c, rfl⟩ := h1
  obtain ⟨b, hb⟩ := h2
  have he : 0 < e := by omega
  have hc : 0 < c := by rcases Nat.eq_zero_or_pos c with h0 | h0; · subst h0; omega
                        · exact h0
  rw [Nat.mul_div_cancel_left _ (by omega : 0 < d), hb, Nat.mul_div_cancel_left _ he]
  rcases Nat.lt_or_ge b c with h3 | h3
  · exact h3
  · have h4 : d * c < e * b := Nat.lt_of_lt_of_le ((Nat.mul_lt_mul_right hc).2 h) (Nat.mul_le_mul_left e h3)
    omega
theorem divs_eq {n k : Nat} (hn : 1 ≤ n) (h1 : ∀ d, d < k → d * d ≤ n) (h2 : n < k * k) : lows n k ++ (highs n k).reverse = divs n := by
  apply sorted_ext
  · rw [List.pairwise_append]
    refine ⟨(range_sorted _).filter _, ?_, ?_⟩
    · rw [List.pairwise_reverse]
      unfold highs
      rw [List.pairwise_map]
      refine List.Pairwise.imp_of_mem ?_ (((range_sorted k).filter (divp n)).filter _)
      intro a b ha hb hab
      have ha2 := (mem_lows.1 (List.mem_filter.1 ha).1)
      have hb2 := (mem_lows.1 (List.mem_filter.1 hb).1)
      exact quo_lt hn ha2.2.1 ha2.2.2 hb2.2.2 hab
    · intro a ha b hb
      rw [List.mem_reverse, mem_highs] at hb
      obtain ⟨d, hd1, hd2, hd3, hd4, rfl⟩ := hb
      obtain ⟨c, rfl⟩ := hd3
      rw [Nat.mul_div_cancel_left _ (by omega : 0 < d)]
      have haa := h1 a (mem_lows.1 ha).1
      have hdc : d < c := Nat.lt_of_mul_lt_mul_left hd4
      rcases Nat.lt_or_ge a c with h3 | h3
      · exact h3
      · have h4 : c * c ≤ a * a := Nat.mul_le_mul h3 h3
        have h5 : d * c < c * c := (Nat.mul_lt_mul_right (by omega)).2 hdc
        omega
  · exact divs_sorted n
  · intro x
    rw [mem_divs hn, List.mem_append, List.mem_reverse, mem_lows, mem_highs]
    constructor
    · rintro (⟨_, h3, h4⟩ | ⟨d, h3, h4, ⟨c, rfl⟩, h6, rfl⟩)
      · exact ⟨h3, h4⟩
      · rw [Nat.mul_div_cancel_left _ (by omega : 0 < d)]
        refine ⟨?_, ⟨d, by rw [Nat.mul_comm]⟩⟩
        rcases Nat.eq_zero_or_pos c with h0 | h0
        · subst h0; omega
        · exact h0
    · rintro ⟨h3, c, rfl⟩
      by_cases hxk : x < k
      · exact .inl ⟨hxk, h3, ⟨c, rfl⟩⟩
      · right
        have hc0 : 0 < c := by
          rcases Nat.eq_zero_or_pos c with h0 | h0
          · subst h0; omega
          · exact h0
        have hck : c < k := by
          rcases Nat.lt_or_ge c k with h4 | h4
          · exact h4
          · have := Nat.mul_le_mul (show k ≤ x by omega) h4; omega
        refine ⟨c, hck, hc0, ⟨x, by rw [Nat.mul_comm]⟩, ?_, by rw [Nat.mul_div_cancel _ hc0]⟩
        exact (Nat.mul_lt_mul_right hc0).2 (by omega)
end Go.Proofs.Ytiljppeamdoocaa
namespace Go.Proofs.Ytiljppeamdoocaa

theorem IsPr.dvd_mul {p a b : Nat} (hp : IsPr p) (h : p ∣ a * b) : p ∣ a ∨ p ∣ b := by
  have hg : Nat.gcd p a ∣ p := Nat.gcd_dvd_left p a
  have hg2 : Nat.gcd p a ∣ a := Nat.gcd_dvd_right p a
  have hpos : 0 < p := by have := hp.1; omega
  have hle := Nat.le_of_dvd hpos hg
  by_cases h1 : Nat.gcd p a = 1
  · right
    exact Nat.Coprime.dvd_of_dvd_mul_left h1 h
  · left
    by_cases h2 : Nat.gcd p a = p
    · rw [h2] at hg2; exact hg2
    · have h0 : 0 < Nat.gcd p a := Nat.gcd_pos_of_pos_left _ hpos
      exact absurd hg (hp.2 _ (by omega) (by omega))
theorem IsPr.eq_of_dvd {p q : Nat} (hp : IsPr p) (hq : IsPr q) (h : p ∣ q) : p = q := by
  have h1 := Nat.le_of_dvd (by have := hq.1; omega) h
  by_cases h2 : p = q
  · exact h2
  · exact absurd h (hq.2 p hp.1 (by omega))
theorem IsPr.dvd_pow {p a k : Nat} (hp : IsPr p) (h : p ∣ a ^ k) : p ∣ a := by
  induction k with
  | zero => rw [Nat.pow_zero] at h; have := Nat.le_of_dvd (by omega) h; have := hp.1; omega
  | succ k ih =>
    rw [Nat.pow_succ] at h
    rcases hp.dvd_mul h with h1 | h1
    · exact ih h1
    · exact h1
theorem dvd_prodPow {l : List (Nat × Nat)} {a : Nat × Nat} (ha : a ∈ l) (h1 : 1 ≤ a.2) : a.1 ∣ prodPow l := by
  induction l with
  | nil => simp at ha
  | cons b l ih =>
    rw [List.mem_cons] at ha
    rcases ha with ha | ha
    · subst ha
      obtain ⟨k, hk⟩ : ∃ k, a.2 = k + 1 := ⟨a.2 - 1, by omega⟩
      simp only [prodPow]
      rw [hk, Nat.pow_succ]
      exact ⟨a.1 ^ k * prodPow l, by rw [Nat.mul_comm (a.1 ^ k) a.1, Nat.mul_assoc]⟩
    · exact Nat.dvd_trans (ih ha) (Nat.dvd_mul_left _ _)
theorem pr_dvd_prodPow {p : Nat} {l : List (Nat × Nat)} (hp : IsPr p) (h : p ∣ prodPow l) (hl : ∀ a ∈ l, IsPr a.1) : ∃ a, a ∈ l ∧ a.1 = p := by
  induction l with
  | nil => simp only [prodPow] at h; have := Nat.le_of_dvd (by omega) h; have := hp.1; omega
  | cons b l ih =>
    simp only [prodPow] at h
    rcases hp.dvd_mul h with h1 | h1
    · exact ⟨b, List.mem_cons_self .., (hp.eq_of_dvd (hl b (List.mem_cons_self ..)) (hp.dvd_pow h1)).symm⟩
    · obtain ⟨a, ha, he⟩ := ih h1 (fun a ha => hl a (List.mem_cons_of_mem _ ha))
      exact ⟨a, List.mem_cons_of_mem _ ha, he⟩
theorem prodPow_pos {l : List (Nat × Nat)} (hl : ∀ a ∈ l, IsPr a.1 ∧ 1 ≤ a.2) : 1 ≤ prodPow l := by
  induction l with
  | nil => simp [prodPow]
  | cons b l ih =>
    simp only [prodPow]
    have h1 := ih fun a ha => hl a (List.mem_cons_of_mem _ ha)
    have h2 : 0 < b.1 ^ b.2 := Nat.pow_pos (by have := (hl b (List.mem_cons_self ..)).1.1; omega)
    exact Nat.mul_pos h2 h1
theorem Factors.tail {n : Nat} {a : Nat × Nat} {l : List (Nat × Nat)} (h : Factors n (a :: l)) : Factors (prodPow l) l :=
  ⟨rfl, (List.pairwise_cons.1 h.inc).2, fun b hb => h.pr b (List.mem_cons_of_mem _ hb)⟩
theorem Factors.head_not {n : Nat} {a : Nat × Nat} {l : List (Nat × Nat)} (h : Factors n (a :: l)) : ¬ a.1 ∣ prodPow l := by
  intro hd
  obtain ⟨b, hb, he⟩ := pr_dvd_prodPow (h.pr a (List.mem_cons_self ..)).1 hd (fun b hb => (h.pr b (List.mem_cons_of_mem _ hb)).1)
  have := (List.pairwise_cons.1 h.inc).1 b hb
  omega
theorem Factors.pos {n : Nat} {l : List (Nat × Nat)} (h : Factors n l) : 1 ≤ n := by rw [← h.prod]; exact prodPow_pos h.pr
theorem Factors.one {l : List (Nat × Nat)} (h : Factors 1 l) : l = [] := by
  cases l with
  | nil => rfl
  | cons a l =>
    have h1 := dvd_prodPow (List.mem_cons_self (a := a) (l := l)) (h.pr a (List.mem_cons_self ..)).2
    rw [h.prod] at h1
    have := Nat.le_of_dvd (by omega) h1
    have := (h.pr a (List.mem_cons_self ..)).1.1
    omega
theorem pow_cancel {p k m A B : Nat} (hp : 0 < p) (hA : ¬ p ∣ A) (hB : ¬ p ∣ B) (h : p ^ k * A = p ^ m * B) : k = m ∧ A = B := by
  induction k generalizing m with
  | zero =>
    cases m with
    | zero => simp only [Nat.pow_zero, Nat.one_mul] at h; exact ⟨rfl, h⟩
    | succ m => exfalso; apply hA; rw [Nat.pow_zero, Nat.one_mul] at h; rw [h, Nat.pow_succ]; exact ⟨p ^ m * B, by rw [Nat.mul_comm (p ^ m), Nat.mul_assoc]⟩
  | succ k ih =>
    cases m with
    | zero => exfalso; apply hB; rw [Nat.pow_zero, Nat.one_mul] at h; rw [← h, Nat.pow_succ]; exact ⟨p ^ k * A, by rw [Nat.mul_comm (p ^ k), Nat.mul_assoc]⟩
    | succ m =>
      have h2 : p ^ k * A = p ^ m * B := by
        rw [Nat.pow_succ, Nat.pow_succ, Nat.mul_comm (p ^ k), Nat.mul_comm (p ^ m), Nat.mul_assoc, Nat.mul_assoc] at h
        exact Nat.eq_of_mul_eq_mul_left hp h
      obtain ⟨h3, h4⟩ := ih h2
      exact ⟨by omega, h4⟩
/-- The factors of a number are told by it. -/
theorem Factors.uniq : ∀ {l m : List (Nat × Nat)} {n : Nat}, Factors n l → Factors n m → l = m := by
  intro l
  induction l with
  | nil =>
    intro m n h1 h2
    have : n = 1 := by rw [← h1.prod]; rfl
    subst this
    exact h2.one.symm
  | cons a l ih =>
    intro m n h1 h2
    cases m with
    | nil =>
      have : n = 1 := by rw [← h2.prod]; rfl
      subst this
      exact absurd h1.one (by simp)
    | cons b m =>
      have ha := h1.pr a (List.mem_cons_self ..)
      have hb := h2.pr b (List.mem_cons_self ..)
      have hab : b.1 ≤ a.1 := by
        have hd := dvd_prodPow (List.mem_cons_self (a := a) (l := l)) ha.2
        rw [h1.prod, ← h2.prod] at hd
        obtain ⟨c, hc, he⟩ := pr_dvd_prodPow ha.1 hd (fun c hc => (h2.pr c hc).1)
        rw [List.mem_cons] at hc
        rcases hc with hc | hc
        · subst hc; omega
        · have := (List.pairwise_cons.1 h2.inc).1 c hc; omega
      have hba : a.1 ≤ b.1 := by
        have hd := dvd_prodPow (List.mem_cons_self (a := b) (l := m)) hb.2
        rw [h2.prod, ← h1.prod] at hd
        obtain ⟨c, hc, he⟩ := pr_dvd_prodPow hb.1 hd (fun c hc => (h1.pr c hc).1)
        rw [List.mem_cons] at hc
        rcases hc with hc | hc
        · subst hc; omega
        · have := (List.pairwise_cons.1 h1.inc).1 c hc; omega
      have he : a.1 = b.1 := by omega
      have hp := h1.prod.trans h2.prod.symm
      simp only [prodPow] at hp
      rw [he] at hp
      have hn1 := h1.head_not
      rw [he] at hn1
      obtain ⟨h3, h4⟩ := pow_cancel (by have := hb.1.1; omega) hn1 h2.head_not hp
      have h5 := h1.tail
      rw [h4] at h5
      have h6 := ih h5 h2.tail
      rw [h6]
      congr 1
      exact Prod.ext he h3
theorem split_pow {p : Nat} (hp : 2 ≤ p) : ∀ {n : Nat}, 1 ≤ n → ∃ k m, n = p ^ k * m ∧ ¬ p ∣ m ∧ 1 ≤ m := by
  intro n
  induction n using Nat.strongRecOn with
  | _ n ih =>
    intro hn
    by_cases h : p ∣ n
    · obtain ⟨c, hc⟩ := h
      have hc1 : 1 ≤ c := by rcases Nat.eq_zero_or_pos c with h0 | h0
                             · subst h0; omega
                             · exact h0
      have hlt : c < n := by
        have : c * 2 ≤ c * p := Nat.mul_le_mul_left c hp
        rw [Nat.mul_comm c p] at this
        omega
      obtain ⟨k, m, h1, h2, h3⟩ := ih c hlt hc1
      refine ⟨k + 1, m, ?_, h2, h3⟩
      rw [hc, h1, Nat.pow_succ, Nat.mul_comm (p ^ k) p, Nat.mul_assoc]
    · exact ⟨0, n, by simp, h, hn⟩
theorem pr_divisor : ∀ {n : Nat}, 2 ≤ n → ∃ p, IsPr p ∧ p ∣ n := by
  intro n
  induction n using Nat.strongRecOn with
  | _ n ih =>
    intro hn
    by_cases h : IsPr n
    · exact ⟨n, h, Nat.dvd_refl n⟩
    · have h2 : ∃ d, 2 ≤ d ∧ d < n ∧ d ∣ n := by
        apply Classical.byContradiction
        intro hno
        exact h ⟨hn, fun d h1 h2 h3 => hno ⟨d, h1, h2, h3⟩⟩
      obtain ⟨d, h3, h4, h5⟩ := h2
      obtain ⟨p, hp, hd⟩ := ih d h4 h3
      exact ⟨p, hp, Nat.dvd_trans hd h5⟩

def insF (a : Nat × Nat) : List (Nat × Nat) → List (Nat × Nat)
  | [] => [a]
  | b :: l => if a.1 < b.1 then a :: b :: l else b :: insF a l
theorem mem_insF {a b : Nat × Nat} {l : List (Nat × Nat)} : b ∈ insF a l ↔ b = a ∨ b ∈ l := by
  induction l with
  | nil => simp [insF]
  | cons c l ih =>
    simp only [insF]
    split
    · simp
    · rw [List.mem_cons, ih, List.mem_cons]
      constructor
      · rintro (h | h | h)
        · exact .inr (.inl h)
        · exact .inl h
        · exact .inr (.inr h)
      · rintro (h | h | h)
        · exact .inr (.inl h)
        · exact .inl h
        · exact .inr (.inr h)
theorem prodPow_insF (a : Nat × Nat) (l : List (Nat × Nat)) : prodPow (insF a l) = a.1 ^ a.2 * prodPow l := by
  induction l with
  | nil => simp [insF, prodPow]
  | cons c l ih =>
    simp only [insF]
    split
    · rfl
    · simp only [prodPow]; rw [ih, Nat.mul_left_comm]
theorem insF_inc {a : Nat × Nat} {l : List (Nat × Nat)} (h : l.Pairwise (fun a b => a.1 < b.1)) (hn : ∀ b ∈ l, b.1 ≠ a.1) : (insF a l).Pairwise (fun a b => a.1 < b.1) := by
  induction l with
  | nil => simp [insF]
  | cons c l ih =>
    rw [List.pairwise_cons] at h
    simp only [insF]
    split
    · rename_i hac
      rw [List.pairwise_cons]
      refine ⟨fun b hb => ?_, List.pairwise_cons.2 h⟩
      rw [List.mem_cons] at hb
      rcases hb with hb | hb
      · subst hb; exact hac
      · have := h.1 b hb; omega
    · rename_i hac
      rw [List.pairwise_cons]
      refine ⟨fun b hb => ?_, ih h.2 fun b hb => hn b (List.mem_cons_of_mem _ hb)⟩
      rw [mem_insF] at hb
      rcases hb with hb | hb
      · subst hb
        have := hn c (List.mem_cons_self ..)
        omega
      · exact h.1 b hb
theorem Factors.ins {p k m : Nat} {l : List (Nat × Nat)} (h : Factors m l) (hp : IsPr p) (hk : 1 ≤ k) (hn : ¬ p ∣ m) : Factors (p ^ k * m) (insF (p, k) l) := by
  refine ⟨by rw [prodPow_insF, h.prod], insF_inc h.inc fun b hb he => ?_, fun a ha => ?_⟩
  · have h1 := dvd_prodPow hb (h.pr b hb).2
    rw [h.prod] at h1
    simp only at he
    rw [he] at h1
    exact hn h1
  · rw [mem_insF] at ha
    rcases ha with ha | ha
    · subst ha; exact ⟨hp, hk⟩
    · exact h.pr a ha
theorem factors_exist : ∀ {n : Nat}, 1 ≤ n → ∃ l, Factors n l := by
  intro n
  induction n using Nat.strongRecOn with
  | _ n ih =>
    intro hn
    by_cases h1 : n = 1
    · subst h1; exact ⟨[], rfl, List.Pairwise.nil, by simp⟩
    · obtain ⟨p, hp, hd⟩ := pr_divisor (show 2 ≤ n by omega)
      obtain ⟨k, m, he, hnd, hm⟩ := split_pow hp.1 hn
      have hk : 1 ≤ k := by
        rcases Nat.eq_zero_or_pos k with h0 | h0
        · subst h0; rw [Nat.pow_zero, Nat.one_mul] at he; rw [he] at hd; exact absurd hd hnd
        · exact h0
      have hlt : m < n := by
        have h2 : 2 ≤ p ^ k := Nat.le_trans hp.1 (by have := Nat.pow_le_pow_right (show 0 < p by have := hp.1; omega) hk; rwa [Nat.pow_one] at this)
        have := Nat.mul_le_mul_right m h2
        omega
      obtain ⟨l, hl⟩ := ih m hlt hm
      exact ⟨_, by rw [he]; exact hl.ins hp hk hnd⟩

/-- A value of the factors: multiplied, prime by prime. -/
def valL (g : Nat → Nat → Int) : List (Nat × Nat) → Int
  | [] => 1
  | a :: l => g a.1 a.2 * valL g l
theorem valL_insF (g : Nat → Nat → Int) (a : Nat × Nat) (l : List (Nat × Nat)) : valL g (insF a l) = g a.1 a.2 * valL g l := by
  induction l with
  | nil => rfl
  | cons c l ih =>
    simp only [insF]
    split
    · rfl
    · simp only [valL]; rw [ih, Int.mul_left_comm]
theorem valL_append (g : Nat → Nat → Int) (l m : List (Nat × Nat)) : valL g (l ++ m) = valL g l * valL g m := by
  induction l with
  | nil => simp [valL]
  | cons c l ih => simp only [List.cons_append, valL]; rw [ih, Int.mul_assoc]
noncomputable def facs (n : Nat) : List (Nat × Nat) := Classical.epsilon (Factors n)
theorem facs_spec {n : Nat} (hn : 1 ≤ n) : Factors n (facs n) := Classical.epsilon_spec (factors_exist hn)
theorem facs_eq {n : Nat} {l : List (Nat × Nat)} (h : Factors n l) : facs n = l := (facs_spec h.pos).uniq h
noncomputable def mult (g : Nat → Nat → Int) (n : Nat) : Int := valL g (facs n)
theorem mult_eq {g : Nat → Nat → Int} {n : Nat} {l : List (Nat × Nat)} (h : Factors n l) : mult g n = valL g l := by unfold mult; rw [facs_eq h]
theorem mult_one (g : Nat → Nat → Int) : mult g 1 = 1 := mult_eq (l := []) ⟨rfl, List.Pairwise.nil, by simp⟩
theorem mult_pow (g : Nat → Nat → Int) {p k m : Nat} (hp : IsPr p) (hk : 1 ≤ k) (hn : ¬ p ∣ m) (hm : 1 ≤ m) : mult g (p ^ k * m) = g p k * mult g m := by
  rw [mult_eq ((facs_spec hm).ins hp hk hn), valL_insF]; rfl
theorem mult_coprime (g : Nat → Nat → Int) : ∀ {a b : Nat}, 1 ≤ a → 1 ≤ b → Nat.gcd a b = 1 → mult g (a * b) = mult g a * mult g b := by
  intro a
  induction a using Nat.strongRecOn with
  | _ a ih =>
    intro b ha hb hg
    by_cases h1 : a = 1
    · subst h1; rw [mult_one, Nat.one_mul, Int.one_mul]
    · obtain ⟨p, hp, hd⟩ := pr_divisor (show 2 ≤ a by omega)
      obtain ⟨k, m, he, hnd, hm⟩ := split_pow hp.1 ha
      have hk : 1 ≤ k := by
        rcases Nat.eq_zero_or_pos k with h0 | h0
        · subst h0; rw [Nat.pow_zero, Nat.one_mul] at he; rw [he] at hd; exact absurd hd hnd
        · exact h0
      have hlt : m < a := by
        have h2 : 2 ≤ p ^ k := Nat.le_trans hp.1 (by have := Nat.pow_le_pow_right (show 0 < p by have := hp.1; omega) hk; rwa [Nat.pow_one] at this)
        have := Nat.mul_le_mul_right m h2
        omega
      have hpb : ¬ p ∣ b := by
        intro h
        have := Nat.dvd_gcd hd h
        rw [hg] at this
        have := Nat.le_of_dvd (by omega) this
        have := hp.1
        omega
      have hgm : Nat.gcd m b = 1 := by
        have h2 : Nat.gcd m b ∣ Nat.gcd a b := Nat.dvd_gcd (Nat.dvd_trans (Nat.gcd_dvd_left m b) (by rw [he]; exact Nat.dvd_mul_left _ _)) (Nat.gcd_dvd_right m b)
        rw [hg] at h2
        exact Nat.dvd_one.1 h2
      have hpm : ¬ p ∣ m * b := fun h => by
        rcases hp.dvd_mul h with h3 | h3
        · exact hnd h3
        · exact hpb h3
      rw [he, Nat.mul_assoc, mult_pow g hp hk hpm (Nat.mul_pos hm hb), mult_pow g hp hk hnd hm, ih m hlt hm hb hgm, Int.mul_assoc]

/-! ### Sums over divisors -/
def sumL (f : Nat → Int) (l : List Nat) : Int := (l.map f).sum
theorem sumL_nil (f : Nat → Int) : sumL f [] = 0 := rfl
theorem sumL_cons (f : Nat → Int) (a : Nat) (l : List Nat) : sumL f (a :: l) = f a + sumL f l := by simp [sumL]
theorem sumL_append (f : Nat → Int) (l m : List Nat) : sumL f (l ++ m) = sumL f l + sumL f m := by
  induction l with
  | nil => simp [sumL_nil]
  | cons a l ih => rw [List.cons_append, sumL_cons, sumL_cons, ih, Int.add_assoc]
theorem sumL_congr {f g : Nat → Int} {l : List Nat} (h : ∀ x ∈ l, f x = g x) : sumL f l = sumL g l := by
  unfold sumL; rw [List.map_congr_left h]
theorem sumL_mul (c : Int) (f : Nat → Int) (l : List Nat) : sumL (fun x => c * f x) l = c * sumL f l := by
  induction l with
  | nil => simp [sumL_nil]
  | cons a l ih => rw [sumL_cons, sumL_cons, ih, Int.mul_add]
theorem sumL_add (f g : Nat → Int) (l : List Nat) : sumL (fun x => f x + g x) l = sumL f l + sumL g l := by
  induction l with
  | nil => simp [sumL_nil]
  | cons a l ih => rw [sumL_cons, sumL_cons, sumL_cons, ih]; omega
theorem sumL_zero (l : List Nat) : sumL (fun _ => 0) l = 0 := by
  induction l with
  | nil => rfl
  | cons a l ih => rw [sumL_cons, ih]; rfl
theorem sumL_map (f : Nat → Int) (h : Nat → Nat) (l : List Nat) : sumL f (l.map h) = sumL (fun x => f (h x)) l := by simp [sumL, List.map_map, Function.comp_def]
theorem sumL_perm {f : Nat → Int} {l m : List Nat} (h : l.Perm m) : sumL f l = sumL f m := by
  induction h with
  | nil => rfl
  | cons a _ ih => rw [sumL_cons, sumL_cons, ih]
  | swap a b l => simp only [sumL_cons]; omega
  | trans _ _ ih1 ih2 => rw [ih1, ih2]
theorem sumL_filter (f : Nat → Int) (p : Nat → Bool) (l : List Nat) : sumL f (l.filter p) = sumL (fun x => if p x = true then f x else 0) l := by
  induction l with
  | nil => rfl
  | cons a l ih =>
    rw [List.filter_cons, sumL_cons, ← ih]
    by_cases h : p a = true
    · rw [if_pos h, if_pos h, sumL_cons]
    · rw [if_neg h, if_neg h, Int.zero_add]
theorem sumL_swap (h : Nat → Nat → Int) (l m : List Nat) : sumL (fun a => sumL (fun b => h a b) m) l = sumL (fun b => sumL (fun a => h a b) l) m := by
  induction l with
  | nil => simp only [sumL_nil]; rw [sumL_zero]
  | cons a l ih =>
    rw [sumL_cons, ih, ← sumL_add]
    exact sumL_congr fun b _ => (sumL_cons (fun a => h a b) a l).symm
/-- All divisors' values together. -/
def sd (f : Nat → Int) (n : Nat) : Int := sumL f (divs n)
theorem coprime_pow_dvd {p j e m : Nat} (hp : IsPr p) (hpe : ¬ p ∣ e) (h : e ∣ p ^ j * m) : e ∣ m := by
  induction j generalizing m with
  | zero => rwa [Nat.pow_zero, Nat.one_mul] at h
  | succ j ih =>
    rw [Nat.pow_succ, Nat.mul_assoc] at h
    have h2 := ih h
    have hc : Nat.gcd e p = 1 := by
      have hg : Nat.gcd e p ∣ p := Nat.gcd_dvd_right e p
      have hle := Nat.le_of_dvd (by have := hp.1; omega) hg
      by_cases h1 : Nat.gcd e p = 1
      · exact h1
      · by_cases h3 : Nat.gcd e p = p
        · exact absurd (by rw [← h3]; exact Nat.gcd_dvd_left e p) hpe
        · have h0 : 0 < Nat.gcd e p := Nat.gcd_pos_of_pos_right _ (by have := hp.1; omega)
          exact absurd hg (hp.2 _ (by omega) (by omega))
    exact Nat.Coprime.dvd_of_dvd_mul_left hc h2
theorem dvd_pow_split {p k m d : Nat} (hp : IsPr p) (hm : ¬ p ∣ m) (hd1 : 1 ≤ d) : d ∣ p ^ (k + 1) * m ↔ d ∣ p ^ k * m ∨ ∃ e, e ∣ m ∧ d = p ^ (k + 1) * e := by
  constructor
  · intro h
    obtain ⟨j, e, rfl, he, he1⟩ := split_pow hp.1 hd1
    have hem : e ∣ m := coprime_pow_dvd hp he (Nat.dvd_trans (Nat.dvd_mul_left _ _) h)
    rcases Nat.lt_trichotomy j (k + 1) with h1 | h1 | h1
    · left
      exact Nat.mul_dvd_mul (Nat.pow_dvd_pow p (by omega)) hem
    · subst h1; exact .inr ⟨e, hem, rfl⟩
    · exfalso
      have h2 : p ^ (k + 2) ∣ p ^ (k + 1) * m := Nat.dvd_trans (Nat.dvd_trans (Nat.pow_dvd_pow p (by omega)) (Nat.dvd_mul_right _ e)) h
      rw [Nat.pow_succ] at h2
      exact hm (Nat.dvd_of_mul_dvd_mul_left (Nat.pow_pos (by have := hp.1; omega)) h2)
  · rintro (h | ⟨e, he, rfl⟩)
    · exact Nat.dvd_trans h (Nat.mul_dvd_mul (Nat.pow_dvd_pow p (by omega)) (Nat.dvd_refl m))
    · exact Nat.mul_dvd_mul (Nat.dvd_refl _) he
theorem divs_nodup (n : Nat) : (divs n).Nodup := (divs_sorted n).imp (fun h => by omega)
theorem divs_pow_perm {p k m : Nat} (hp : IsPr p) (hm : ¬ p ∣ m) (h1 : 1 ≤ m) : (divs (p ^ (k + 1) * m)).Perm (divs (p ^ k * m) ++ (divs m).map fun d => p ^ (k + 1) * d) := by
  have hpp : ∀ j, 0 < p ^ j := fun j => Nat.pow_pos (by have := hp.1; omega)
  have hpos : ∀ j, 1 ≤ p ^ j * m := fun j => Nat.mul_pos (hpp j) h1
  rw [List.perm_ext_iff_of_nodup (divs_nodup _)]
  · intro d
    rw [mem_divs (hpos _), List.mem_append, mem_divs (hpos _), List.mem_map]
    constructor
    · rintro ⟨h2, h3⟩
      rcases (dvd_pow_split hp hm h2).1 h3 with h4 | ⟨e, he, rfl⟩
      · exact .inl ⟨h2, h4⟩
      · refine .inr ⟨e, (mem_divs h1).2 ⟨?_, he⟩, rfl⟩
        rcases Nat.eq_zero_or_pos e with h0 | h0
        · subst h0; omega
        · exact h0
    · rintro (⟨h2, h3⟩ | ⟨e, he, rfl⟩)
      · exact ⟨h2, (dvd_pow_split hp hm h2).2 (.inl h3)⟩
      · obtain ⟨h2, h3⟩ := (mem_divs h1).1 he
        have h4 : 1 ≤ p ^ (k + 1) * e := Nat.mul_pos (hpp _) h2
        exact ⟨h4, (dvd_pow_split hp hm h4).2 (.inr ⟨e, h3, rfl⟩)⟩
  · rw [List.nodup_append]
    refine ⟨divs_nodup _, ?_, ?_⟩
    · rw [List.nodup_iff_pairwise_ne, List.pairwise_map]
      refine (divs_sorted m).imp fun {a b} hab he => ?_
      have := Nat.eq_of_mul_eq_mul_left (hpp (k + 1)) he
      omega
    · intro a ha b hb hab
      subst hab
      rw [List.mem_map] at hb
      obtain ⟨e, he, rfl⟩ := hb
      obtain ⟨_, h3⟩ := (mem_divs (hpos _)).1 ha
      have h4 : p ^ (k + 1) ∣ p ^ k * m := Nat.dvd_trans (Nat.dvd_mul_right _ e) h3
      rw [Nat.pow_succ] at h4
      exact hm (Nat.dvd_of_mul_dvd_mul_left (hpp k) h4)
def gsum (g : Nat → Nat → Int) (p : Nat) : Nat → Int
  | 0 => 1
  | k + 1 => gsum g p k + g p (k + 1)
theorem sd_pow (g : Nat → Nat → Int) {p k m : Nat} (hp : IsPr p) (hm : ¬ p ∣ m) (h1 : 1 ≤ m) : sd (mult g) (p ^ k * m) = gsum g p k * sd (mult g) m := by
  induction k with
  | zero => rw [Nat.pow_zero, Nat.one_mul]; simp only [gsum]; rw [Int.one_mul]
  | succ k ih =>
    unfold sd at ih ⊢
    rw [sumL_perm (divs_pow_perm hp hm h1), sumL_append, ih, sumL_map]
    simp only [gsum]
    rw [Int.add_mul]
    congr 1
    rw [← sumL_mul]
    refine sumL_congr fun d hd => ?_
    obtain ⟨h2, h3⟩ := (mem_divs h1).1 hd
    exact mult_pow g hp (by omega) (fun h => hm (Nat.dvd_trans h h3)) h2

/-- EULER's function, MOEBIUS's. -/
def phiG (p k : Nat) : Int := (p : Int) ^ (k - 1) * ((p : Int) - 1)
def muG (_ k : Nat) : Int := if k = 1 then -1 else 0
noncomputable def phi (n : Nat) : Int := mult phiG n
noncomputable def mu (n : Nat) : Int := mult muG n
theorem gsum_phi (p k : Nat) : gsum phiG p k = (p : Int) ^ k := by
  induction k with
  | zero => simp [gsum]
  | succ k ih =>
    simp only [gsum, phiG, Nat.add_sub_cancel]
    rw [ih, Int.mul_sub, Int.mul_one, Int.pow_succ]; omega
theorem gsum_mu (p k : Nat) : gsum muG p (k + 1) = 0 := by
  induction k with
  | zero => simp [gsum, muG]
  | succ k ih => rw [gsum, ih]; simp [muG]
theorem sd_one (f : Nat → Int) : sd f 1 = f 1 := by simp [sd, divs, sumL, divp, List.range_succ]
/-- GAUSS. -/
theorem sd_phi : ∀ {n : Nat}, 1 ≤ n → sd phi n = n := by
  intro n
  induction n using Nat.strongRecOn with
  | _ n ih =>
    intro hn
    by_cases h1 : n = 1
    · subst h1; rw [sd_one]; exact mult_one _
    · obtain ⟨p, hp, hd⟩ := pr_divisor (show 2 ≤ n by omega)
      obtain ⟨k, m, he, hnd, hm⟩ := split_pow hp.1 hn
      have hk : 1 ≤ k := by
        rcases Nat.eq_zero_or_pos k with h0 | h0
        · subst h0; rw [Nat.pow_zero, Nat.one_mul] at he; rw [he] at hd; exact absurd hd hnd
        · exact h0
      have hlt : m < n := by
        have h2 : 2 ≤ p ^ k := Nat.le_trans hp.1 (by have := Nat.pow_le_pow_right (show 0 < p by have := hp.1; omega) hk; rwa [Nat.pow_one] at this)
        have := Nat.mul_le_mul_right m h2
        omega
      have h3 := ih m hlt hm
      unfold phi at h3 ⊢
      rw [he, sd_pow phiG hp hnd hm, h3, gsum_phi]
      push_cast
      rfl
theorem sd_mu {n : Nat} (hn : 1 ≤ n) : sd mu n = if n = 1 then 1 else 0 := by
  by_cases h1 : n = 1
  · subst h1; rw [sd_one, if_pos rfl]; exact mult_one _
  · obtain ⟨p, hp, hd⟩ := pr_divisor (show 2 ≤ n by omega)
    obtain ⟨k, m, he, hnd, hm⟩ := split_pow hp.1 hn
    have hk : 1 ≤ k := by
      rcases Nat.eq_zero_or_pos k with h0 | h0
      · subst h0; rw [Nat.pow_zero, Nat.one_mul] at he; rw [he] at hd; exact absurd hd hnd
      · exact h0
    obtain ⟨j, rfl⟩ : ∃ j, k = j + 1 := ⟨k - 1, by omega⟩
    unfold mu
    rw [if_neg h1, he, sd_pow muG hp hnd hm, gsum_mu, Int.zero_mul]
/-- The multiples of e among the divisors of n. -/
theorem divs_multiples {n e : Nat} (hn : 1 ≤ n) (he : 1 ≤ e) (hd : e ∣ n) : (divs n).filter (fun d => decide (e ∣ d)) = (divs (n / e)).map fun c => e * c := by
  obtain ⟨q, rfl⟩ := hd
  have hq : 1 ≤ q := by
    rcases Nat.eq_zero_or_pos q with h0 | h0
    · subst h0; omega
    · exact h0
  rw [Nat.mul_div_cancel_left _ (by omega : 0 < e)]
  apply sorted_ext
  · exact (divs_sorted _).filter _
  · rw [List.pairwise_map]
    exact (divs_sorted q).imp fun {a b} h => (Nat.mul_lt_mul_left (by omega)).2 h
  · intro x
    rw [List.mem_filter, mem_divs hn, List.mem_map]
    simp only [decide_eq_true_eq]
    constructor
    · rintro ⟨⟨h1, h2⟩, c, rfl⟩
      refine ⟨c, (mem_divs hq).2 ⟨?_, Nat.dvd_of_mul_dvd_mul_left (by omega) h2⟩, rfl⟩
      rcases Nat.eq_zero_or_pos c with h0 | h0
      · subst h0; omega
      · exact h0
    · rintro ⟨c, hc, rfl⟩
      obtain ⟨h1, h2⟩ := (mem_divs hq).1 hc
      exact ⟨⟨Nat.mul_pos he h1, Nat.mul_dvd_mul (Nat.dvd_refl e) h2⟩, Nat.dvd_mul_right _ _⟩
/-- MOEBIUS's inversion. -/
theorem moebius_inv (f : Nat → Int) {n : Nat} (hn : 1 ≤ n) : sd (fun d => sd (fun e => f e * mu (d / e)) d) n = f n := by
  have e1 : sd (fun d => sd (fun e => f e * mu (d / e)) d) n = sumL (fun d => sumL (fun e => if decide (e ∣ d) = true then f e * mu (d / e) else 0) (divs n)) (divs n) := by
    unfold sd
    refine sumL_congr fun d hd => ?_
    obtain ⟨h1, h2⟩ := (mem_divs hn).1 hd
    rw [← sumL_filter]
    congr 1
    apply sorted_ext (divs_sorted d) ((divs_sorted n).filter _)
    intro x
    rw [List.mem_filter, mem_divs h1, mem_divs hn]
    simp only [decide_eq_true_eq]
    exact ⟨fun ⟨a, b⟩ => ⟨⟨a, Nat.dvd_trans b h2⟩, b⟩, fun ⟨⟨a, _⟩, b⟩ => ⟨a, b⟩⟩
  rw [e1, sumL_swap]
  have e2 : sumL (fun e => sumL (fun d => if decide (e ∣ d) = true then f e * mu (d / e) else 0) (divs n)) (divs n) = sumL (fun e => if decide (e = n) = true then f n else 0) (divs n) := by
    refine sumL_congr fun e he => ?_
    obtain ⟨h1, h2⟩ := (mem_divs hn).1 he
    rw [← sumL_filter, divs_multiples hn h1 h2, sumL_map]
    have e3 : sumL (fun c => f e * mu (e * c / e)) (divs (n / e)) = sumL (fun c => f e * mu c) (divs (n / e)) := sumL_congr fun c _ => by rw [Nat.mul_div_cancel_left _ (by omega : 0 < e)]
    have hq : 1 ≤ n / e := Nat.div_pos (Nat.le_of_dvd (by omega) h2) (by omega)
    rw [e3, sumL_mul]
    have h3 := sd_mu hq
    unfold sd at h3
    rw [h3]
    by_cases h4 : e = n
    · subst h4; rw [Nat.div_self (by omega)]; simp
    · have h5 : n / e ≠ 1 := by
        intro h6
        have := Nat.div_mul_cancel h2
        rw [h6] at this; omega
      simp [h4, h5]
  rw [e2, ← sumL_filter]
  have e4 : (divs n).filter (fun e => decide (e = n)) = [n] := by
    apply sorted_ext ((divs_sorted n).filter _) (by simp)
    intro x
    rw [List.mem_filter, mem_divs hn]
    simp only [decide_eq_true_eq, List.mem_singleton]
    exact ⟨fun h => h.2, fun h => ⟨⟨by omega, by rw [h]; exact Nat.dvd_refl n⟩, h⟩⟩
  rw [e4]
  simp [sumL]
end Go.Proofs.Ytiljppeamdoocaa
