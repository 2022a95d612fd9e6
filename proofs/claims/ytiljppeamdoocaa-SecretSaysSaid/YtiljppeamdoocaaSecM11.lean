/- poly.Gcd, and Common of the reference. -/
import Derived.Test.YtiljppeamdoocaaSecM6
namespace Go.Proofs.Ytiljppeamdoocaa
open Go.RowKit

noncomputable def pinv (p : Int) (g : List Int) : Int := bezX (co g (g.length - 1) % p) p
/-- h is what EUCLID's steps leave of f and g. -/
inductive GcdIs (p : Int) : List Int → List Int → List Int → Prop
  | done (f : List Int) : GcdIs p f [] f
  | step (f g r h : List Int) (hn : 0 < g.length) (hr : Trm r ∧ ∀ k, co r k = rdn p (pinv p g) g (co f) (KOf f g) (KOf f g) k) (hh : GcdIs p g r h) : GcdIs p f g h
theorem GcdIs.uniq {p : Int} {f g h : List Int} (a : GcdIs p f g h) : ∀ {h2 : List Int}, GcdIs p f g h2 → h = h2 := by
  induction a with
  | done f =>
    intro h2 b
    cases b with
    | done => rfl
    | step _ _ r _ hn => simp at hn
  | step f g r h hn hr hh ih =>
    intro h2 b
    cases b with
    | done => simp at hn
    | step _ _ r2 _ hn2 hr2 hh2 =>
      obtain rfl : r = r2 := trm_ext hr.1 hr2.1 fun k => by rw [hr.2, hr2.2]
      exact ih hh2
theorem PolOk.of_rem {p : Int} {f g r : List Int} (OG : PolOk p g) (D : DivOk p (pinv p g) g f) (hr : Trm r ∧ ∀ k, co r k = rdn p (pinv p g) g (co f) (KOf f g) (KOf f g) k) : PolOk p r ∧ r.length < g.length := by
  have hl : r.length ≤ g.length - 1 := by
    rw [← hr.1.tlen]
    refine tlen_le_of fun k hk => ?_
    rw [hr.2]
    exact rdn_top D _ (Nat.le_refl _) k (by have := D.hn; omega)
  have := D.hn
  exact ⟨⟨OG.p1, OG.p2, OG.pr, by have := OG.len; omega, rem_inF D hr.2, hr.1⟩, by omega⟩
theorem pinv_of {p : Int} {g : List Int} (OG : PolOk p g) (hn : 0 < g.length) : 0 ≤ pinv p g ∧ pinv p g < p ∧ pinv p g * co g (g.length - 1) % p = 1 ∧ gI (co g (g.length - 1) % p) p = 1 := by
  obtain ⟨i, rfl, h⟩ := inv_of OG hn
  exact h
set_option maxRecDepth 20000 in
set_option maxHeartbeats 1000000 in
theorem poly_Gcd_bad (p : Int) (f g : List Int) (ao bo : Option Addr) (nf ng ca cb : Nat) (w : World) (hp : (Lit.int .i64 p).wf = true) (hlf : f.length = nf) (hlg : g.length = ng) (h63 : nf ≤ 9223372036854775807) (h64 : ng ≤ 9223372036854775807)
    (hF : Hid (Reads w ao (f.map (Value.int .i64)))) (hG : Hid (Reads w bo (g.map (Value.int .i64)))) (hc : chkE p f g ≠ 0) :
    Calls Try.prog 45 #[.int .i64 p, .slice ao nf ca, .slice bo ng cb] w fun e w' => e = .returned (.tuple #[.slice none 0 0, .int .i64 (chkE p f g)]) ∧ Below w.heap.size w w' := by
  have C1 := Lib.hid (poly_checks p f g ao bo nf ng ca cb w hp hlf hlg h63 h64 hF hG)
  obtain ⟨c, hcc⟩ : ∃ c, chkE p f g = c := ⟨_, rfl⟩
  rw [hcc] at C1 hc ⊢
  have hc0 : (c != 0) = true := by simp [hc]
  clear hp hlf hlg hc hcc
  go_enter Try.func45, Try.ntmps45
  go_wp2_with (go_at_call 97; refine C1.out.mono ?_; rintro e w' ⟨rfl, hb1⟩)
  go_ret2
  exact ⟨rfl, hb1⟩
/-- The monic list. -/
def MonIs (p : Int) (f g m : List Int) : Prop := ∃ h, GcdIs p f g h ∧ ((h.length = 0 ∧ m = []) ∨ (0 < h.length ∧ IsPol p (fun k => co h k * pinv p h) m))
theorem MonIs.uniq {p : Int} {f g m m2 : List Int} (a : MonIs p f g m) (b : MonIs p f g m2) : m = m2 := by
  obtain ⟨h, h1, h2⟩ := a
  obtain ⟨h', h3, h4⟩ := b
  obtain rfl := h1.uniq h3
  rcases h2 with ⟨a1, rfl⟩ | ⟨a1, a2⟩
  · rcases h4 with ⟨_, rfl⟩ | ⟨b1, _⟩
    · rfl
    · omega
  · rcases h4 with ⟨b1, _⟩ | ⟨b1, b2⟩
    · omega
    · exact a2.uniq b2 fun _ => rfl
def GcdPost (p : Int) (f g : List Int) (w : World) (e : Ending) (w' : World) : Prop :=
  ∃ m v, MonIs p f g m ∧ Below w.heap.size w w' ∧ e = .returned (.tuple #[v, .int .i64 0]) ∧ w'.ownsRow w.heap.size 3 1 v m.length (m.map (Value.int .i64))
set_option maxRecDepth 100000 in
set_option maxHeartbeats 2000000 in
theorem poly_Gcd (p : Int) (f g : List Int) (ao bo : Option Addr) (nf ng ca cb : Nat) (w : World) (hp : (Lit.int .i64 p).wf = true) (hlf : f.length = nf) (hlg : g.length = ng) (hna : ao = none → nf = 0 ∧ ca = 0) (hnb : bo = none → ng = 0 ∧ cb = 0)
    (hF : Hid (Reads w ao (f.map (Value.int .i64)))) (hG : Hid (Reads w bo (g.map (Value.int .i64)))) (hf : polE p f = 0) (hg : polE p g = 0) :
    Calls Try.prog 45 #[.int .i64 p, .slice ao nf ca, .slice bo ng cb] w (GcdPost p f g w) := by
  have OF := Lib.hid (polOk_of hf)
  have OG := Lib.hid (polOk_of hg)
  have p1 := OF.out.p1
  have p2 := OF.out.p2
  have l1 := OF.out.len
  have l2 := OG.out.len
  have C1 := Lib.hid (poly_checks p f g ao bo nf ng ca cb w hp hlf hlg (by omega) (by omega) hF hG)
  rw [chkE_zero hf hg] at C1
  have HNA : Hid (ao = none → f.length = 0 ∧ ca = 0) := by rw [hlf]; exact hna
  have HNB : Hid (bo = none → g.length = 0 ∧ cb = 0) := by rw [hlg]; exact hnb
  have HLF := Lib.hid hlf.symm
  have HLG := Lib.hid hlg.symm
  clear hp hlf hlg hf hg hna hnb l1 l2
  go_enter Try.func45, Try.ntmps45
  go_wp2_with (go_at_call 97; refine C1.out.mono ?_; rintro e w1 ⟨rfl, hb1⟩)
  have HF1 := Lib.hid (hF.out.below hb1)
  have HG1 := Lib.hid (hG.out.below hb1)
  have HB1 := Lib.hid hb1
  clear hb1
  go_loopw [1, 2] (fun v1 v2 wr => ∃ (F G : List Int) (aF aG : Option Addr) (mF mG cF cG : Nat), v1 = .slice aF mF cF ∧ v2 = .slice aG mG cG ∧ Hid (mF = F.length ∧ mG = G.length) ∧ Hid (PolOk p F ∧ PolOk p G) ∧ Hid ((aF = none → mF = 0 ∧ cF = 0) ∧ (aG = none → mG = 0 ∧ cG = 0)) ∧ Hid (Reads wr aF (F.map (Value.int .i64))) ∧ Hid (Reads wr aG (G.map (Value.int .i64))) ∧ Hid (∀ h, GcdIs p F G h → GcdIs p f g h) ∧ Hid (Below w.heap.size w wr)) (fun _ v2 _ => match v2 with | .slice _ m _ => m | _ => 0)
  case atStart => exact ⟨f, g, ao, bo, nf, ng, ca, cb, rfl, rfl, ⟨HLF.out, HLG.out⟩, ⟨OF.out, OG.out⟩, ⟨by rw [HLF.out]; exact HNA.out, by rw [HLG.out]; exact HNB.out⟩, HF1, HG1, fun h hh => hh, HB1⟩
  case round =>
    obtain ⟨F, G, aF, aG, mF, mG, cF, cG, rfl, rfl, hl, ho, hn, hRF, hRG, hgc, hb⟩ := hrel
    have lF := ho.out.1.len
    have lG := ho.out.2.len
    rw [← hl.out.1] at lF
    rw [← hl.out.2] at lG
    by_cases h0 : 0 < mG
    · have d1 : decide ((0 : Int) < mG) = true := by simp; omega
      obtain ⟨i2, i3, i4, i5⟩ := pinv_of ho.out.2 (by rw [← hl.out.2]; exact h0)
      have HD := Lib.hid (divOk_of ho.out.1 ho.out.2 (by rw [← hl.out.2]; exact h0) i4)
      have CD := Lib.hid (poly_Divided p F G mF mG aF aG cF cG wr p2 (pinv p G) i2 i3 HD.out i5 rfl hl.out.1.symm hl.out.2.symm (by omega) (by omega) hn.out.1 hRF hRG)
      clear i2 i3 i4 i5
      go_wp2_with (go_at_call 98; refine CD.out.mono ?_; rintro e w2 ⟨q, r, vq, vr, hq, hr, hb2, rfl, oQ, oR⟩)
      obtain ⟨aR, cR, rfl, rR, nR, k1, k2⟩ := own_data oR
      obtain ⟨pr, hlt⟩ := PolOk.of_rem ho.out.2 HD.out hr
      have HG2 := Lib.hid (hRG.out.below hb2)
      have HR2 := Lib.hid rR
      have HO2 := Lib.hid (And.intro ho.out.2 pr)
      have HN2 : Hid ((aG = none → mG = 0 ∧ cG = 0) ∧ (aR = none → r.length = 0 ∧ cR = 0)) := ⟨hn.out.2, nR⟩
      have HGC : Hid (∀ h, GcdIs p G r h → GcdIs p f g h) := fun h hh => hgc.out h (.step F G r h (by rw [← hl.out.2]; exact h0) hr hh)
      have HB2 := Lib.hid (hb.out.trans (hb2.mono hb.out.size))
      have hlt2 : r.length < mG := by rw [hl.out.2]; exact hlt
      have HL2 : Hid (mG = G.length ∧ r.length = r.length) := ⟨hl.out.2, rfl⟩
      clear oQ oR hq hr hb2 rR nR pr hlt k1 k2
      go_roundw
      case rel => exact ⟨G, r, aG, aR, mG, r.length, cG, cR, rfl, rfl, HL2, HO2, HN2, HG2, HR2, HGC, HB2⟩
      case measure => simpa using hlt2
    · have d1 : decide ((0 : Int) < mG) = false := by simp; omega
      have hG0 : G = [] := List.eq_nil_of_length_eq_zero (by rw [← hl.out.2]; omega)
      have HGI : Hid (GcdIs p f g F) := by
        have := hgc.out F
        rw [hG0] at this
        exact this (.done F)
      clear hG0
      by_cases hF0 : mF = 0
      · have hz : ((mF : Int) == 0) = true := by simp [hF0]
        have hfin : Hid (GcdPost p f g w (.returned (.tuple #[.slice none 0 0, .int .i64 0])) wr) := ⟨[], _, ⟨F, HGI.out, .inl ⟨by rw [← hl.out.1]; exact hF0, rfl⟩⟩, hb.out, rfl, World.ownsRow_nil _ _ _ _⟩
        clear hF0
        go_wp2_with fail
        go_ret2
        exact hfin.out
      · have hz : ((mF : Int) == 0) = false := by simp [hF0]
        obtain ⟨i2, i3, i4, i5⟩ := pinv_of ho.out.1 (by rw [← hl.out.1]; omega)
        obtain ⟨l, hll⟩ : ∃ l, co F (F.length - 1) = l := ⟨_, rfl⟩
        obtain ⟨V, hV⟩ : ∃ V, pinv p F = V := ⟨_, rfl⟩
        have hlb := ho.out.1.inF.co (by omega) (F.length - 1)
        rw [hll] at hlb i5
        have CI := Lib.hid (fun w => rest_Inverse l p w (by omega) (by omega) (by omega) (by omega) i5)
        have hVe : bezX (l % p) p = V := by rw [← hV, ← hll]; rfl
        rw [hVe] at CI
        rw [hV] at i2 i3
        obtain ⟨j, hj⟩ : ∃ j, mF - 1 = j := ⟨_, rfl⟩
        obtain ⟨b, o, rfl, hcl⟩ := hRF.out j (.int .i64 l) (by rw [List.getElem?_map, co_some (by rw [← hl.out.1]; omega), ← hj, hl.out.1, hll]; rfl)
        have hjw : IntKind.i64.wrap ((mF : Int) - 1) = j := by rw [show (mF : Int) - 1 = j by omega]; exact IntWalk.i64_in _ (by omega)
        have j0 : (0 : Int) ≤ j := by omega
        have j1 : (j : Int) < mF := by omega
        have HV := Lib.hid hV
        have hpos : Hid (0 < F.length) := by show _ < _; rw [← hl.out.1]; omega
        have hInV : Hid (InF p [V]) := by
          intro x hx
          simp at hx
          subst hx
          exact ⟨i2, i3⟩
        have hI1 := ho.out.1.inF
        clear hll hV hVe hj hF0 i4 i5
        go_wp2_with (first | (go_at_call 80; refine (CI.out _).mono ?_; rintro e w' ⟨rfl, n3, rfl⟩; have HRF3 := Lib.hid ((hRF.out.drew n3).alloc (.cells #[.int .i64 V] 3)); have HRV : Hid (Reads ((wr.drewN n3).alloc (.cells #[.int .i64 V] 3)) (some ⟨wr.heap.size, 0, none⟩) ([V].map (Value.int .i64))) := reads_new (wr.drewN n3) #[.int .i64 V] 3; have hb3 : Below w.heap.size w ((wr.drewN n3).alloc (.cells #[.int .i64 V] 3)) := (below_drewN hb.out n3).alloc (by exact hb.out.size) _) | (go_at_call 79; refine (poly_Product p F [V] mF 1 (some ⟨b, o, none⟩) (some ⟨wr.heap.size, 0, none⟩) cF 1 _ p1 p2 hl.out.1.symm rfl (by omega) (by omega) hI1 hInV HRF3 HRV).mono ?_; rintro e w4 ⟨h, hpol, v, rfl, hv1, hv2⟩))
        go_ret2
        refine ⟨h, v, ⟨F, HGI.out, .inr ⟨hpos.out, ⟨hpol.1, fun k => by rw [hpol.2, conv_single, HV.out]⟩⟩⟩, hb3.trans (hv2.mono hb3.size), rfl, own_mono hv1 hb3.size⟩
end Go.Proofs.Ytiljppeamdoocaa
namespace Go.Proofs.Ytiljppeamdoocaa
open Go.RowKit

def ComPost (p : Int) (f g : List Int) (w : World) (e : Ending) (w' : World) : Prop := ∃ m, MonIs p f g m ∧ ListPost w.heap.size m w e w'
set_option maxRecDepth 100000 in
set_option maxHeartbeats 4000000 in
theorem ref_Common (p : Int) : ∀ (n : Nat) (f g : List Int) (ao bo : Option Addr) (nf ng ca cb : Nat) (w : World), ng ≤ n → f.length = nf → g.length = ng → PolOk p f → PolOk p g → (ao = none → nf = 0 ∧ ca = 0) → (bo = none → ng = 0 ∧ cb = 0) → nf ≤ ca → ca ≤ 9223372036854775807 → ng ≤ cb → cb ≤ 9223372036854775807 →
    Hid (Reads w ao (f.map (Value.int .i64))) → Hid (Reads w bo (g.map (Value.int .i64))) →
    Calls Try.prog 47 #[.int .i64 p, .slice ao nf ca, .slice bo ng cb] w (ComPost p f g w) := by
  intro n
  induction n with
  | zero =>
    intro f g ao bo nf ng ca cb w hn hlf hlg OF' OG' hna hnb hca hca2 hcb hcb2 hF hG
    obtain rfl : ng = 0 := by omega
    have hg0 : g = [] := List.eq_nil_of_length_eq_zero hlg
    have HG0 := Lib.hid hg0
    have OF := Lib.hid OF'
    have HLF := Lib.hid hlf
    have p1 := OF'.p1
    have p2 := OF'.p2
    have l1 := OF'.len
    rw [hlf] at l1
    by_cases hF0 : nf = 0
    · have hz : ((nf : Int) == 0) = true := by simp [hF0]
      have hfin : Hid (ComPost p f g w (.returned (.slice none 0 0)) w) := ⟨[], ⟨f, by rw [hg0]; exact .done f, .inl ⟨by omega, rfl⟩⟩, _, rfl, World.ownsRow_nil _ _ _ _, Below.refl _ _⟩
      clear hF0 hlf hlg hg0 OF' OG' hna hnb hn
      go_enter Try.func47, Try.ntmps47
      go_wp2_with fail
      go_ret
      exact hfin.out
    · have hz : ((nf : Int) == 0) = false := by simp [hF0]
      obtain ⟨i2, i3, i4, i5⟩ := pinv_of OF' (by omega)
      obtain ⟨l, hll⟩ : ∃ l, co f (f.length - 1) = l := ⟨_, rfl⟩
      have hlb := OF'.inF.co (by omega) (f.length - 1)
      obtain ⟨V, hV⟩ : ∃ V : Nat, pinv p f = V := ⟨(pinv p f).toNat, by omega⟩
      rw [hll] at hlb i4 i5
      rw [hV] at i2 i3 i4
      have V1 : 1 ≤ V := by
        rcases Nat.eq_zero_or_pos V with h | h
        · subst h; simp at i4
        · exact h
      have HIL := Lib.hid i4
      obtain ⟨j, hj⟩ : ∃ j, nf - 1 = j := ⟨_, rfl⟩
      obtain ⟨b, o, rfl, hcl⟩ := hF.out j (.int .i64 l) (by rw [List.getElem?_map, co_some (by omega), ← hj, ← hlf, hll]; rfl)
      have hjw : IntKind.i64.wrap ((nf : Int) - 1) = j := by rw [show (nf : Int) - 1 = j by omega]; exact IntWalk.i64_in _ (by omega)
      have j0 : (0 : Int) ≤ j := by omega
      have j1 : (j : Int) < nf := by omega
      have e1p : Int.tmod 1 p = 1 := by rw [Int.tmod_eq_emod_of_nonneg (by omega)]; exact Int.emod_eq_of_lt (by omega) (by omega)
      have w1p : IntKind.i64.wrap (1 : Int) = 1 := IntWalk.i64_in _ (by omega)
      have hp0 : ¬ p = 0 := by omega
      have hp1 : 1 < p := by omega
      have HV := Lib.hid hV
      have hpos : Hid (0 < f.length) := by show _ < _; omega
      have hInV : Hid (InF p [(V : Int)]) := by
        intro x hx
        simp at hx
        subst hx
        exact ⟨i2, i3⟩
      have hI1 := OF'.inF
      clear hll hV hj hF0 i4 i5 hlf hlg hg0 OF' OG' hna hnb hn
      go_enter Try.func47, Try.ntmps47
      go_wp2_with fail
      go_loopw [7] (fun vb wr => ∃ (c n : Nat), vb = .int .i64 c ∧ 1 ≤ c ∧ c ≤ V ∧ wr = w.drewN n) (fun vb _ => V - (intOf vb).toNat)
      case atStart => exact ⟨1, 0, rfl, by omega, V1, rfl⟩
      case round =>
        obtain ⟨c, n, rfl, hc1, hcV, rfl⟩ := hrel
        have hcg2 : (w.drewN n).cell? ⟨b, o + j, none⟩ = some (.int .i64 l) := hcl
        have hx := mul_bd (show (0 : Int) ≤ c by omega) (show (c : Int) ≤ 996 by omega) hlb.1 (show l ≤ 996 by omega)
        obtain ⟨x, hxe⟩ : ∃ x, (c : Int) * l = x := ⟨_, rfl⟩
        rw [hxe] at hx
        have wx : IntKind.i64.wrap x = x := IntWalk.i64_in _ (by omega)
        obtain ⟨r, hr⟩ : ∃ r, x % p = r := ⟨_, rfl⟩
        have hrt : Int.tmod x p = r := by rw [Int.tmod_eq_emod_of_nonneg (by omega)]; exact hr
        have hrb : 0 ≤ r ∧ r < p := by rw [← hr]; exact ⟨Int.emod_nonneg _ hp0, Int.emod_lt_of_pos _ (by omega)⟩
        have wr1 : IntKind.i64.wrap r = r := IntWalk.i64_in _ (by omega)
        by_cases hone : r = 1
        · subst hone
          have hn1' : ((1 : Int) != 1) = false := rfl
          have hcv : c = V := by
            have h := inv_same hp1 (by rw [hxe, hr]) HIL.out
            rw [Int.emod_eq_of_lt (by omega) (by omega), Int.emod_eq_of_lt (by omega) (by omega)] at h
            omega
          subst hcv
          have ecp : Int.tmod (c : Int) p = c := by rw [Int.tmod_eq_emod_of_nonneg (by omega)]; exact Int.emod_eq_of_lt (by omega) (by omega)
          have wc1 : IntKind.i64.wrap (c : Int) = c := IntWalk.i64_in _ (by omega)
          have HRF3 : Hid (Reads ((w.drewN (n + 1)).alloc (.cells #[.int .i64 (c : Int)] 3)) (some ⟨b, o, none⟩) (f.map (Value.int .i64))) := (hF.out.drew _).alloc _
          have HRV : Hid (Reads ((w.drewN (n + 1)).alloc (.cells #[.int .i64 (c : Int)] 3)) (some ⟨w.heap.size, 0, none⟩) ([(c : Int)].map (Value.int .i64))) := reads_new (w.drewN (n + 1)) #[.int .i64 (c : Int)] 3
          have hb3 : Hid (Below w.heap.size w ((w.drewN (n + 1)).alloc (.cells #[.int .i64 (c : Int)] 3))) := (below_dr _ w _).alloc (Nat.le_refl _) _
          clear hr
          go_wp2_with fail
          go_region
          go_wp2_with (go_at_call 43; refine (ref_Product p [(c : Int)] f 1 nf (some ⟨w.heap.size, 0, none⟩) (some ⟨b, o, none⟩) 1 ca _ p1 p2 rfl HLF.out (by omega) (by omega) hInV hI1 HRV HRF3).mono ?_; rintro e w4 ⟨h, hpol, v, rfl, hv1, hv2⟩)
          go_ret
          exact ⟨h, ⟨f, by rw [HG0.out]; exact .done f, .inr ⟨hpos.out, ⟨hpol.1, fun k => by rw [hpol.2, single_conv, HV.out, Int.mul_comm]⟩⟩⟩, v, rfl, own_mono hv1 hb3.out.size, hb3.out.trans (hv2.mono hb3.out.size)⟩
        · have hr1 : (r != 1) = true := by simp [hone]
          have hcV2 : c < V := by
            rcases Nat.lt_or_ge c V with h | h
            · exact h
            · obtain rfl : c = V := by omega
              exact absurd (by rw [← hr, ← hxe]; exact HIL.out) hone
          clear hr hone
          go_wp2_with fail
          go_region
          go_wp2_with fail
          go_roundw
          case rel => exact ⟨c + 1, n + 1, by go_num, by omega, by omega, by rw [← World.drewN_drewN]⟩
          case measure => simp [intOf]; omega
  | succ n ih =>
    intro f g ao bo nf ng ca cb w hn hlf hlg OF' OG' hna hnb hca hca2 hcb hcb2 hF hG
    rcases Nat.lt_or_ge ng (n + 1) with hlt | hge
    · exact ih f g ao bo nf ng ca cb w (by omega) hlf hlg OF' OG' hna hnb hca hca2 hcb hcb2 hF hG
    · have hz : ((ng : Int) == 0) = false := by simp; omega
      obtain ⟨i2, i3, i4, i5⟩ := pinv_of OG' (by omega)
      have l1 := OF'.len
      have l2 := OG'.len
      have HD := Lib.hid (divOk_of OF' OG' (by omega) i4)
      have CR := Lib.hid (ref_Remain p (pinv p g) f g nf ng ao bo ca cb w OF'.p2 i2 i3 HD.out OF'.trm hlf hlg (by omega) (by omega) hca hca2 hna hF hG)
      have OG := Lib.hid OG'
      have HLG := Lib.hid hlg
      have hg0 : Hid (0 < g.length) := by show _ < _; omega
      clear i2 i3 i4 i5 l1 l2 hlf hlg OF' OG' hna
      go_enter Try.func47, Try.ntmps47
      go_wp2_with (first | (go_at_call 44; refine CR.out.mono ?_; rintro e w1 ⟨r, tr, cr, hlr, v, rfl, oR, hb1⟩; obtain ⟨aR, cR, rfl, rR, nR, k1, k2⟩ := own_data oR; have hlr2 := (show r.length ≤ n by rw [HLG.out] at hlr; omega)) | (go_at_call 47; refine (ih g r bo aR ng r.length cb cR w1 hlr2 HLG.out rfl OG.out (PolOk.of_rem OG.out HD.out ⟨tr, cr⟩).1 hnb nR hcb hcb2 k1 k2 (hG.out.below hb1) rR).mono ?_; rintro e w2 ⟨m, ⟨h, hgc, hm⟩, v, rfl, hv1, hv2⟩))
      go_ret
      exact ⟨m, ⟨h, .step f g r h hg0.out ⟨tr, cr⟩ hgc, hm⟩, v, rfl, own_mono hv1 hb1.size, hb1.trans (hv2.mono hb1.size)⟩
set_option maxRecDepth 20000 in
set_option maxHeartbeats 1000000 in
theorem ref_ValueAt (p : Int) (f : List Int) (x : Int) (ao : Option Addr) (nf ca : Nat) (w : World) (hp : 2 ≤ p) (hp2 : p ≤ 997) (hx : (Lit.int .i64 x).wf = true) (hlf : f.length = nf) (hnf : nf ≤ 9223372036854775807) (hf : Hid (InF p f)) (hF : Hid (Reads w ao (f.map (Value.int .i64)))) :
    Calls Try.prog 46 #[.int .i64 p, .slice ao nf ca, .int .i64 x] w fun e w' => e = .returned (.int .i64 (evp (x % p) f % p)) ∧ ∃ n, w' = w.drewN n := by
  have hxb : -9223372036854775808 ≤ x ∧ x ≤ 9223372036854775807 := by simpa [Lit.wf, IntKind.min, IntKind.max, IntKind.signed, IntKind.bits] using hx
  have CM := Lib.hid (fun w => ref_mod x p w hxb.1 hxb.2 (by omega) (by omega))
  have z0 : 0 ≤ x % p := Int.emod_nonneg _ (by omega)
  have z1 : x % p < p := Int.emod_lt_of_pos _ (by omega)
  obtain ⟨z, hz⟩ : ∃ z, x % p = z := ⟨_, rfl⟩
  rw [hz] at CM z0 z1 ⊢
  have HLF := Lib.hid hlf
  have hp0 : ¬ p = 0 := by omega
  have e1p : Int.tmod 1 p = 1 := by rw [Int.tmod_eq_emod_of_nonneg (by omega)]; exact Int.emod_eq_of_lt (by omega) (by omega)
  have w1p : IntKind.i64.wrap (1 : Int) = 1 := IntWalk.i64_in _ (by omega)
  have h1p : Hid ((1 : Int) = z ^ 0 % p) := by show _ = _; rw [Int.pow_zero, Int.emod_eq_of_lt (by omega) (by omega)]
  clear hlf hz hx hxb
  go_enter Try.func46, Try.ntmps46
  go_wp2_with fail
  go_region
  go_wp2_with fail
  go_loopw [7, 8, 15] (fun vo vy vi wr => ∃ (k n : Nat) (o y : Int), vi = .int .i64 k ∧ k ≤ nf ∧ vo = .int .i64 o ∧ vy = .int .i64 y ∧ 0 ≤ o ∧ o ≤ 996 ∧ 0 ≤ y ∧ y ≤ 996 ∧ Hid (o = evn z (co f) k % p) ∧ Hid (y = z ^ k % p) ∧ wr = w.drewN n) (fun _ _ vi _ => nf - (intOf vi).toNat)
  case atStart => exact ⟨0, 1, 0, 1, rfl, by omega, rfl, rfl, by omega, by omega, by omega, by omega, (Int.zero_emod p).symm, h1p.out, rfl⟩
  case round =>
    obtain ⟨k, n, o, y, rfl, hk, rfl, rfl, o0, o1, y0, y1, ho, hy, rfl⟩ := hrel
    by_cases hkn : k < nf
    · obtain ⟨c, hc⟩ : ∃ c, co f k = c := ⟨_, rfl⟩
      obtain ⟨b, of, rfl, hcx⟩ := hF.out k (.int .i64 c) (by rw [List.getElem?_map, co_some (by rw [HLF.out]; exact hkn), hc]; rfl)
      have hcx2 : (w.drewN n).cell? ⟨b, of + k, none⟩ = some (.int .i64 c) := hcx
      have hcb := hf.out.co (by omega) k
      rw [hc] at hcb
      have hm1 := mul_bd hcb.1 (show c ≤ 996 by omega) y0 y1
      obtain ⟨m, hm⟩ : ∃ m, c * y = m := ⟨_, rfl⟩
      rw [hm] at hm1
      have wm : IntKind.i64.wrap m = m := IntWalk.i64_in _ (by omega)
      have ws : IntKind.i64.wrap (o + m) = o + m := IntWalk.i64_in _ (by omega)
      obtain ⟨r, hr⟩ : ∃ r, (o + m) % p = r := ⟨_, rfl⟩
      have hrt : Int.tmod (o + m) p = r := by rw [Int.tmod_eq_emod_of_nonneg (by omega)]; exact hr
      have hrb := pol_bd (by omega) hp2 _ hr.symm
      have wr1 : IntKind.i64.wrap r = r := IntWalk.i64_in _ (by omega)
      have hq1 := mul_bd y0 y1 z0 (show z ≤ 996 by omega)
      obtain ⟨q, hq⟩ : ∃ q, y * z = q := ⟨_, rfl⟩
      rw [hq] at hq1
      have wq : IntKind.i64.wrap q = q := IntWalk.i64_in _ (by omega)
      obtain ⟨t, ht⟩ : ∃ t, q % p = t := ⟨_, rfl⟩
      have htt : Int.tmod q p = t := by rw [Int.tmod_eq_emod_of_nonneg (by omega)]; exact ht
      have htb := pol_bd (by omega) hp2 _ ht.symm
      have wt : IntKind.i64.wrap t = t := IntWalk.i64_in _ (by omega)
      have HO : Hid (r = evn z (co f) (k + 1) % p) := by
        show r = (evn z (co f) k + co f k * z ^ k) % p
        rw [← hr, ← hm, hc, ho.out, hy.out, Int.emod_add_emod, Int.add_emod, Int.mul_emod, Int.emod_emod_of_dvd _ (Int.dvd_refl p), ← Int.mul_emod, ← Int.add_emod]
      have HY : Hid (t = z ^ (k + 1) % p) := by
        show _ = _
        rw [← ht, ← hq, hy.out, Int.pow_succ, Int.mul_emod, Int.emod_emod_of_dvd _ (Int.dvd_refl p), ← Int.mul_emod]
      clear hr ht hc
      go_wp2_with (go_at_call 102; refine (CM.out _).mono ?_; rintro e w' ⟨rfl, n3, rfl⟩)
      go_roundw
      case rel => exact ⟨k + 1, n + n3, r, t, by go_num, by omega, rfl, rfl, hrb.1, hrb.2, htb.1, htb.2, HO, HY, rfl⟩
      case measure => simp [intOf]; omega
    · have hfin : Hid (o = evp z f % p) := by
        show _ = _
        rw [ho.out, show k = f.length by rw [HLF.out]; omega]; rfl
      go_wp2_with fail
      go_ret
      exact ⟨ret_int hfin.out, _, rfl⟩
end Go.Proofs.Ytiljppeamdoocaa
