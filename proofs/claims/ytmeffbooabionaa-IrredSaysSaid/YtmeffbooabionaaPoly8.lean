/- Remain of the reference. -/
import Derived.Test.YtmeffbooabionaaPoly7
import Derived.RegionTactic
set_option linter.unusedVariables false
set_option linter.unusedSimpArgs false
namespace Go.Proofs.Ytmeffbooabionaa
open Go.RowKit

theorem inv_same {p b inv l : Int} (hp : 1 < p) (hb : b * l % p = 1) (hi : inv * l % p = 1) : b % p = inv % p := by
  obtain ⟨n, rfl⟩ : ∃ n : Nat, p = n := ⟨p.toNat, by omega⟩
  have e1 : (1 : Int) % (n : Int) = 1 := Int.emod_eq_of_lt (by omega) (by omega)
  exact inv_uniq (a := l) (by rw [hb, e1]) (by rw [hi, e1])
theorem step_same {p b inv : Int} (h : b % p = inv % p) (s x t : Int) : (s + (-b) * x * t) % p = (s - x * inv * t) % p := by
  have hb : b = b % p + p * (b / p) := (Int.emod_add_mul_ediv b p).symm
  have hi : inv = inv % p + p * (inv / p) := (Int.emod_add_mul_ediv inv p).symm
  rw [← h] at hi
  have e : s + (-b) * x * t = (s - x * inv * t) + p * ((inv / p - b / p) * x * t) := by
    generalize b % p = m at hb hi
    generalize b / p = d at hb ⊢
    generalize inv / p = d2 at hi ⊢
    subst hb hi
    grind
  rw [e, Int.add_mul_emod_self_left]
/-- The rest after the next step that is no empty one. -/
theorem rdn_next {p inv b : Int} {g f h : List Int} (D : DivOk p inv g f) (hbi : b % p = inv % p) {t : Nat} (ht : t ≤ KOf f g) (hh : ∀ k, co h k = rdn p inv g (co f) (KOf f g) t k) (htr : Trm h) (hl : g.length ≤ h.length) :
    ∃ t', t' + 1 ≤ KOf f g ∧ (∀ k, (co h k + (-b) * co h (h.length - 1) * sh g (h.length - g.length) k) % p = rdn p inv g (co f) (KOf f g) (t' + 1) k) ∧ (∀ k, h.length - 1 ≤ k → rdn p inv g (co f) (KOf f g) (t' + 1) k = 0) := by
  have hn := D.hn
  have hL : h.length ≤ KOf f g - t + g.length - 1 := by
    rw [← htr.tlen]
    refine tlen_le_of fun k hk => ?_
    rw [hh]
    exact rdn_top D t ht k (by omega)
  refine ⟨KOf f g - 1 - (h.length - g.length), by omega, fun k => ?_, fun k hk => rdn_top D _ (by omega) k (by omega)⟩
  have hsk : ∀ j, rdn p inv g (co f) (KOf f g) (KOf f g - 1 - (h.length - g.length)) j = co h j := by
    intro j
    have h1 := rdn_skips D (t := t) (L := h.length) (fun j hj => by rw [← hh]; exact co_out hj) (KOf f g - 1 - (h.length - g.length) - t) (by omega) (by omega) j
    rw [show t + (KOf f g - 1 - (h.length - g.length) - t) = KOf f g - 1 - (h.length - g.length) by omega] at h1
    rw [h1, hh]
  show _ = (rdn p inv g (co f) (KOf f g) (KOf f g - 1 - (h.length - g.length)) k - rdn p inv g (co f) (KOf f g) (KOf f g - 1 - (h.length - g.length)) (KOf f g - 1 - (KOf f g - 1 - (h.length - g.length)) + g.length - 1) * inv * sh g (KOf f g - 1 - (KOf f g - 1 - (h.length - g.length))) k) % p
  rw [hsk, hsk, show KOf f g - 1 - (KOf f g - 1 - (h.length - g.length)) = h.length - g.length by omega, show h.length - g.length + g.length - 1 = h.length - 1 by omega]
  exact step_same hbi _ _ _
theorem rdn_end {p inv : Int} {g f h : List Int} (D : DivOk p inv g f) {t : Nat} (ht : t ≤ KOf f g) (hh : ∀ k, co h k = rdn p inv g (co f) (KOf f g) t k) (hl : h.length < g.length) (k : Nat) : co h k = rdn p inv g (co f) (KOf f g) (KOf f g) k := by
  have h1 := rdn_skips D (t := t) (L := h.length) (fun j hj => by rw [← hh]; exact co_out hj) (KOf f g - t) (by omega) (by omega) k
  rw [show t + (KOf f g - t) = KOf f g by omega] at h1
  rw [h1, hh]
def RemPost (p inv : Int) (f g : List Int) (w : World) (e : Ending) (w' : World) : Prop :=
  ∃ h, Trm h ∧ (∀ k, co h k = rdn p inv g (co f) (KOf f g) (KOf f g) k) ∧ h.length < g.length ∧ ListPost w.heap.size h w e w'
set_option maxRecDepth 100000 in
set_option maxHeartbeats 4000000 in
theorem ref_Remain (p inv : Int) (f g : List Int) (nf ng : Nat) (ao bo : Option Addr) (ca cb : Nat) (w : World) (hp2 : p ≤ 997) (hi0 : 0 ≤ inv) (hi1 : inv < p) (D : DivOk p inv g f) (ht : Trm f) (hlf : f.length = nf) (hlg : g.length = ng) (hnf : nf ≤ 1000) (hng : ng ≤ 1000)
    (hca : nf ≤ ca) (hca2 : ca ≤ 9223372036854775807) (hnone : ao = none → nf = 0 ∧ ca = 0) (hF : Hid (Reads w ao (f.map (Value.int .i64)))) (hG : Hid (Reads w bo (g.map (Value.int .i64)))) :
    Calls Try.prog 53 #[.int .i64 p, .slice ao nf ca, .slice bo ng cb] w (RemPost p inv f g w) := by
  have HD := Lib.hid D
  have HLF := Lib.hid hlf
  have HLG := Lib.hid hlg
  have HT := Lib.hid ht
  have hn1 : 1 ≤ ng := by have := D.hn; omega
  have hp1 := D.hp
  obtain ⟨l, hl⟩ : ∃ l, co g (g.length - 1) = l := ⟨_, rfl⟩
  have hlb := D.hg.co (by omega) (g.length - 1)
  have hil := D.hi
  rw [hl] at hlb hil
  have hinv1 : 1 ≤ inv := by
    rcases Int.lt_or_le 0 inv with h | h
    · omega
    · obtain rfl : inv = 0 := by omega
      simp at hil
  obtain ⟨V, rfl⟩ : ∃ n : Nat, inv = n := ⟨inv.toNat, by omega⟩
  have HIL := Lib.hid hil
  obtain ⟨j, hj⟩ : ∃ j, ng - 1 = j := ⟨_, rfl⟩
  obtain ⟨b, o, rfl, hcg⟩ := hG.out j (.int .i64 l) (by rw [List.getElem?_map, co_some (by omega), ← hj, ← hlg, hl]; rfl)
  have hjw : IntKind.i64.wrap ((ng : Int) - 1) = j := by rw [show (ng : Int) - 1 = j by omega]; exact IntWalk.i64_in _ (by omega)
  have j0 : (0 : Int) ≤ j := by omega
  have j1 : (j : Int) < ng := by omega
  have CC := Lib.hid (ref_Short f nf ao ca w.heap.size w (by omega) hlf hca hca2 hnone hF (Nat.le_refl _))
  rw [trim_trm ht] at CC
  have e1p : Int.tmod 1 p = 1 := by rw [Int.tmod_eq_emod_of_nonneg (by omega)]; exact Int.emod_eq_of_lt (by omega) (by omega)
  have w1p : IntKind.i64.wrap (1 : Int) = 1 := IntWalk.i64_in _ (by omega)
  have hp0 : ¬ p = 0 := by omega
  have V1 : 1 ≤ V := by omega
  have V2 : V ≤ 996 := by omega
  clear D hlf hlg ht hl hil hnone hi0 hi1 hinv1 hj
  go_enter Try.func53, Try.ntmps53
  go_wp2_with (go_at_call 77; refine CC.out.mono ?_; rintro e w1 ⟨v, rfl, hown, hb1⟩; have hcg1 := (hb1.cell (World.block_lt_of_cell? w _ hcg)).trans hcg)
  have HO1 := Lib.hid hown
  have HB1 := Lib.hid hb1
  clear hown hb1
  go_loopw [7] (fun vb wr => ∃ (c n : Nat), vb = .int .i64 c ∧ 1 ≤ c ∧ c ≤ V ∧ wr = w1.drewN n) (fun vb _ => V - (intOf vb).toNat)
  case atStart => exact ⟨1, 0, rfl, by omega, V1, rfl⟩
  case round =>
    obtain ⟨c, n, rfl, hc1, hcV, rfl⟩ := hrel
    have hcg2 : (w1.drewN n).cell? ⟨b, o + j, none⟩ = some (.int .i64 l) := hcg1
    have hx := mul_bd (show (0 : Int) ≤ c by omega) (show (c : Int) ≤ 996 by omega) hlb.1 (show l ≤ 996 by omega)
    obtain ⟨x, hxe⟩ : ∃ x, (c : Int) * l = x := ⟨_, rfl⟩
    rw [hxe] at hx
    have wx : IntKind.i64.wrap x = x := IntWalk.i64_in _ (by omega)
    obtain ⟨r, hr⟩ : ∃ r, x % p = r := ⟨_, rfl⟩
    have hrt : Int.tmod x p = r := by rw [Int.tmod_eq_emod_of_nonneg (by omega)]; exact hr
    have hrb : 0 ≤ r ∧ r < p := by rw [← hr]; exact ⟨Int.emod_nonneg _ hp0, Int.emod_lt_of_pos _ (by omega)⟩
    have wr1 : IntKind.i64.wrap r = r := IntWalk.i64_in _ (by omega)
    by_cases hone : r = 1
    · subst hone
      have hn1' : ((1 : Int) != 1) = false := rfl
      have HBI : Hid ((c : Int) % p = (V : Int) % p) := inv_same hp1 (by rw [hxe, hr]) HIL.out
      clear hr
      go_wp2_with fail
      go_region
      go_wp2_with fail
      have hO0 : Hid ((w1.drewN (n + 1)).ownsRow w.heap.size 3 1 v f.length (f.map (Value.int .i64))) := own_below HO1.out (below_dr _ _ _)
      have hB0 : Hid (Below w.heap.size w (w1.drewN (n + 1))) := below_drewN HB1.out _
      have hf0 : Hid (∀ k, co f k = rdn p V g (co f) (KOf f g) 0 k) := fun k => rfl
      clear hcg1 hcg2
      generalize w1.drewN (n + 1) = wc at *
      go_loopw [1] (fun vv wr => ∃ (h : List Int) (t : Nat), t ≤ KOf f g ∧ h.length ≤ nf ∧ Hid (Trm h) ∧ Hid (∀ k, co h k = rdn p V g (co f) (KOf f g) t k) ∧ Hid (wr.ownsRow w.heap.size 3 1 vv h.length (h.map (Value.int .i64))) ∧ Hid (Below w.heap.size w wr)) (fun vv _ => match vv with | .slice _ m _ => m | _ => 0)
      case atStart => exact ⟨f, 0, by omega, by rw [HLF.out]; exact Nat.le_refl _, HT, hf0, hO0, hB0⟩
      case round =>
        obtain ⟨h, t, htK, hhl, htr, hh, hO, hb⟩ := hrel
        obtain ⟨oo, cc, hv, hRr, hrn, hc5, hc6⟩ := own_data hO.out
        obtain ⟨m, hm⟩ : ∃ m, h.length = m := ⟨_, rfl⟩
        rw [hm] at hv hrn hc5 hhl
        have HM := Lib.hid hm
        have hcg3 := (hb.out.cell (World.block_lt_of_cell? w _ hcg)).trans hcg
        by_cases hmg : ng ≤ m
        · obtain ⟨t', ht1, ht2, ht3⟩ := rdn_next HD.out HBI.out htK hh.out htr.out (by rw [HLG.out, HM.out]; exact hmg)
          rw [HLG.out, HM.out] at ht2
          rw [HM.out] at ht3
          obtain ⟨i, hi⟩ : ∃ i, m - 1 = i := ⟨_, rfl⟩
          obtain ⟨k, hk⟩ : ∃ k, m - ng = k := ⟨_, rfl⟩
          rw [hi, hk] at ht2
          obtain ⟨y, hy⟩ : ∃ y, co h i = y := ⟨_, rfl⟩
          have hin : InF p h := InF.of_co fun k => by rw [hh.out]; exact rdn_bd HD.out _ _ _
          have hyb := hin.co (by omega) i
          rw [hy] at hyb ht2
          obtain ⟨bo, ho, hoo, hcy⟩ := hRr i (.int .i64 y) (by rw [List.getElem?_map, co_some (by omega), hy]; rfl)
          have i0 : (0 : Int) ≤ i := by omega
          have i1 : (i : Int) < m := by omega
          have wi : IntKind.i64.wrap ((m : Int) - 1) = i := by rw [show (m : Int) - 1 = i by omega]; exact IntWalk.i64_in _ (by omega)
          have wk : IntKind.i64.wrap ((m : Int) - ng) = k := by rw [show (m : Int) - ng = k by omega]; exact IntWalk.i64_in _ (by omega)
          have wneg : IntKind.i64.wrap (-(c : Int)) = -(c : Int) := IntWalk.i64_in _ (by omega)
          have hz := mul_bd (show (0 : Int) ≤ c by omega) (show (c : Int) ≤ 996 by omega) hyb.1 (show y ≤ 996 by omega)
          obtain ⟨z, hze⟩ : ∃ z, -(c : Int) * y = z := ⟨_, rfl⟩
          have hzb : -1000000 ≤ z ∧ z ≤ 0 := by
            rw [← hze, Int.neg_mul]; omega
          rw [hze] at ht2
          have wz : IntKind.i64.wrap z = z := IntWalk.i64_in _ (by omega)
          have CP := Lib.hid (ref_Plus p h z g k m ng oo (some ⟨b, o, none⟩) cc cb wr (by omega) hp2 (by omega) (by omega) hm HLG.out (by omega) (by omega) (by omega) hin HD.out.hg hrn hRr (hG.out.below hb.out))
          have hge : decide ((ng : Int) ≤ m) = true := by simp; omega
          have HT2 := Lib.hid ht2
          have HT3 := Lib.hid ht3
          subst hv
          subst hoo
          clear ht2 ht3 hy hi hk hm hRr hin hz
          go_wp2_with (go_at_call 78; refine CP.out.mono ?_; rintro e w' ⟨h2, hpol2, v2, rfl, hv1, hv2⟩)
          have HC2 : Hid (∀ a, co h2 a = rdn p V g (co f) (KOf f g) (t' + 1) a) := fun a => by rw [hpol2.2 a]; exact HT2.out a
          have HTr2 : Hid (Trm h2) := hpol2.1
          have hl2 : h2.length < m := by
            have : h2.length ≤ m - 1 := by
              rw [← HTr2.out.tlen]
              exact tlen_le_of fun a ha => by rw [HC2.out]; exact HT3.out a ha
            omega
          have HV1 := Lib.hid (own_mono hv1 hb.out.size)
          have HB2 := Lib.hid (hb.out.trans (hv2.mono hb.out.size))
          obtain ⟨o3, c3, hv3, _, _, _, _⟩ := own_data hv1
          subst hv3
          clear hpol2 hv1 hv2
          go_roundw
          case rel => exact ⟨h2, t' + 1, ht1, by omega, HTr2, HC2, HV1, HB2⟩
          case measure => simpa using hl2
        · have hge : decide ((ng : Int) ≤ m) = false := by simp; omega
          have hfin : Hid (RemPost p V f g w (.returned u1) wr) := ⟨h, htr.out, fun k => rdn_end HD.out htK hh.out (by rw [HLG.out, HM.out]; omega) k, by rw [HLG.out, HM.out]; omega, u1, rfl, hO.out, hb.out⟩
          subst hv
          clear hRr
          go_wp2_with fail
          go_ret
          exact hfin.out
    · have hr1 : (r != 1) = true := by simp [hone]
      have hcV2 : c < V := by
        rcases Nat.lt_or_ge c V with h | h
        · exact h
        · obtain rfl : c = V := by omega
          exact absurd (by rw [← hr, ← hxe]; exact HIL.out) hone
      clear hr hone
      go_wp2_with fail
      go_region
      go_wp2_with fail
      go_roundw
      case rel => exact ⟨c + 1, n + 1, by go_num, by omega, by omega, by rw [← World.drewN_drewN]⟩
      case measure => simp [intOf]; omega
end Go.Proofs.Ytmeffbooabionaa
