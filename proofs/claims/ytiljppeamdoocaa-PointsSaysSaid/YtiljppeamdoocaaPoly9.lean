/- poly.Gcd, and Common of the reference. -/
import Derived.Test.YtiljppeamdoocaaPolyL
namespace Go.Proofs.Ytiljppeamdoocaa
open Go.RowKit

noncomputable def pinv (p : Int) (g : List Int) : Int := bezX (co g (g.length - 1) % p) p
/-- h is what EUCLID's steps leave of f and g. -/
inductive GcdIs (p : Int) : List Int → List Int → List Int → Prop
  | done (f : List Int) : GcdIs p f [] f
  | step (f g r h : List Int) (hn : 0 < g.length) (hr : Trm r ∧ ∀ k, co r k = rdn p (pinv p g) g (co f) (KOf f g) (KOf f g) k) (hh : GcdIs p g r h) : GcdIs p f g h
theorem GcdIs.uniq {p : Int} {f g h : List Int} (a : GcdIs p f g h) : ∀ {h2 : List Int}, GcdIs p f g h2 → h = h2 := by
  induction a with
  | done f =>
    intro h2 b
    cases b with
    | done => rfl
    | step _ _ r _ hn => simp at hn
  | step f g r h hn hr hh ih =>
    intro h2 b
    cases b with
    | done => simp at hn
    | step _ _ r2 _ hn2 hr2 hh2 =>
      obtain rfl : r = r2 := trm_ext hr.1 hr2.1 fun k => by rw [hr.2, hr2.2]
      exact ih hh2
theorem PolOk.of_rem {p : Int} {f g r : List Int} (OG : PolOk p g) (D : DivOk p (pinv p g) g f) (hr : Trm r ∧ ∀ k, co r k = rdn p (pinv p g) g (co f) (KOf f g) (KOf f g) k) : PolOk p r ∧ r.length < g.length := by
  have hl : r.length ≤ g.length - 1 := by
    rw [← hr.1.tlen]
    refine tlen_le_of fun k hk => ?_
    rw [hr.2]
    exact rdn_top D _ (Nat.le_refl _) k (by have := D.hn; omega)
  have := D.hn
  exact ⟨⟨OG.p1, OG.p2, OG.pr, by have := OG.len; omega, rem_inF D hr.2, hr.1⟩, by omega⟩
theorem pinv_of {p : Int} {g : List Int} (OG : PolOk p g) (hn : 0 < g.length) : 0 ≤ pinv p g ∧ pinv p g < p ∧ pinv p g * co g (g.length - 1) % p = 1 ∧ gI (co g (g.length - 1) % p) p = 1 := by
  obtain ⟨i, rfl, h⟩ := inv_of OG hn
  exact h
set_option maxRecDepth 20000 in
set_option maxHeartbeats 1000000 in
theorem poly_Gcd_bad (p : Int) (f g : List Int) (ao bo : Option Addr) (nf ng ca cb : Nat) (w : World) (hp : (Lit.int .i64 p).wf = true) (hlf : f.length = nf) (hlg : g.length = ng) (h63 : nf ≤ 9223372036854775807) (h64 : ng ≤ 9223372036854775807)
    (hF : Hid (Reads w ao (f.map (Value.int .i64)))) (hG : Hid (Reads w bo (g.map (Value.int .i64)))) (hc : chkE p f g ≠ 0) :
    Calls Try.prog 45 #[.int .i64 p, .slice ao nf ca, .slice bo ng cb] w fun e w' => e = .returned (.tuple #[.slice none 0 0, .int .i64 (chkE p f g)]) ∧ Below w.heap.size w w' := by
  have C1 := Lib.hid (poly_checks p f g ao bo nf ng ca cb w hp hlf hlg h63 h64 hF hG)
  obtain ⟨c, hcc⟩ : ∃ c, chkE p f g = c := ⟨_, rfl⟩
  rw [hcc] at C1 hc ⊢
  have hc0 : (c != 0) = true := by simp [hc]
  clear hp hlf hlg hc hcc
  go_enter Try.func45, Try.ntmps45
  go_wp2_with (go_at_call 97; refine C1.out.mono ?_; rintro e w' ⟨rfl, hb1⟩)
  go_ret2
  exact ⟨rfl, hb1⟩
/-- The monic list. -/
def MonIs (p : Int) (f g m : List Int) : Prop := ∃ h, GcdIs p f g h ∧ ((h.length = 0 ∧ m = []) ∨ (0 < h.length ∧ IsPol p (fun k => co h k * pinv p h) m))
theorem MonIs.uniq {p : Int} {f g m m2 : List Int} (a : MonIs p f g m) (b : MonIs p f g m2) : m = m2 := by
  obtain ⟨h, h1, h2⟩ := a
  obtain ⟨h', h3, h4⟩ := b
  obtain rfl := h1.uniq h3
  rcases h2 with ⟨a1, rfl⟩ | ⟨a1, a2⟩
  · rcases h4 with ⟨_, rfl⟩ | ⟨b1, _⟩
    · rfl
    · omega
  · rcases h4 with ⟨b1, _⟩ | ⟨b1, b2⟩
    · omega
    · exact a2.uniq b2 fun _ => rfl
def GcdPost (p : Int) (f g : List Int) (w : World) (e : Ending) (w' : World) : Prop :=
  ∃ m v, MonIs p f g m ∧ Below w.heap.size w w' ∧ e = .returned (.tuple #[v, .int .i64 0]) ∧ w'.ownsRow w.heap.size 3 1 v m.length (m.map (Value.int .i64))
set_option maxRecDepth 100000 in
set_option maxHeartbeats 2000000 in
theorem poly_Gcd (p : Int) (f g : List Int) (ao bo : Option Addr) (nf ng ca cb : Nat) (w : World) (hp : (Lit.int .i64 p).wf = true) (hlf : f.length = nf) (hlg : g.length = ng) (hna : ao = none → nf = 0 ∧ ca = 0) (hnb : bo = none → ng = 0 ∧ cb = 0)
    (hF : Hid (Reads w ao (f.map (Value.int .i64)))) (hG : Hid (Reads w bo (g.map (Value.int .i64)))) (hf : polE p f = 0) (hg : polE p g = 0) :
    Calls Try.prog 45 #[.int .i64 p, .slice ao nf ca, .slice bo ng cb] w (GcdPost p f g w) := by
  have OF := Lib.hid (polOk_of hf)
  have OG := Lib.hid (polOk_of hg)
  have p1 := OF.out.p1
  have p2 := OF.out.p2
  have l1 := OF.out.len
  have l2 := OG.out.len
  have C1 := Lib.hid (poly_checks p f g ao bo nf ng ca cb w hp hlf hlg (by omega) (by omega) hF hG)
  rw [chkE_zero hf hg] at C1
  have HNA : Hid (ao = none → f.length = 0 ∧ ca = 0) := by rw [hlf]; exact hna
  have HNB : Hid (bo = none → g.length = 0 ∧ cb = 0) := by rw [hlg]; exact hnb
  have HLF := Lib.hid hlf.symm
  have HLG := Lib.hid hlg.symm
  clear hp hlf hlg hf hg hna hnb l1 l2
  go_enter Try.func45, Try.ntmps45
  go_wp2_with (go_at_call 97; refine C1.out.mono ?_; rintro e w1 ⟨rfl, hb1⟩)
  have HF1 := Lib.hid (hF.out.below hb1)
  have HG1 := Lib.hid (hG.out.below hb1)
  have HB1 := Lib.hid hb1
  clear hb1
  go_loopw [1, 2] (fun v1 v2 wr => ∃ (F G : List Int) (aF aG : Option Addr) (mF mG cF cG : Nat), v1 = .slice aF mF cF ∧ v2 = .slice aG mG cG ∧ Hid (mF = F.length ∧ mG = G.length) ∧ Hid (PolOk p F ∧ PolOk p G) ∧ Hid ((aF = none → mF = 0 ∧ cF = 0) ∧ (aG = none → mG = 0 ∧ cG = 0)) ∧ Hid (Reads wr aF (F.map (Value.int .i64))) ∧ Hid (Reads wr aG (G.map (Value.int .i64))) ∧ Hid (∀ h, GcdIs p F G h → GcdIs p f g h) ∧ Hid (Below w.heap.size w wr)) (fun _ v2 _ => match v2 with | .slice _ m _ => m | _ => 0)
  case atStart => exact ⟨f, g, ao, bo, nf, ng, ca, cb, rfl, rfl, ⟨HLF.out, HLG.out⟩, ⟨OF.out, OG.out⟩, ⟨by rw [HLF.out]; exact HNA.out, by rw [HLG.out]; exact HNB.out⟩, HF1, HG1, fun h hh => hh, HB1⟩
  case round =>
    obtain ⟨F, G, aF, aG, mF, mG, cF, cG, rfl, rfl, hl, ho, hn, hRF, hRG, hgc, hb⟩ := hrel
    have lF := ho.out.1.len
    have lG := ho.out.2.len
    rw [← hl.out.1] at lF
    rw [← hl.out.2] at lG
    by_cases h0 : 0 < mG
    · have d1 : decide ((0 : Int) < mG) = true := by simp; omega
      obtain ⟨i2, i3, i4, i5⟩ := pinv_of ho.out.2 (by rw [← hl.out.2]; exact h0)
      have HD := Lib.hid (divOk_of ho.out.1 ho.out.2 (by rw [← hl.out.2]; exact h0) i4)
      have CD := Lib.hid (poly_Divided p F G mF mG aF aG cF cG wr p2 (pinv p G) i2 i3 HD.out i5 rfl hl.out.1.symm hl.out.2.symm (by omega) (by omega) hn.out.1 hRF hRG)
      clear i2 i3 i4 i5
      go_wp2_with (go_at_call 98; refine CD.out.mono ?_; rintro e w2 ⟨q, r, vq, vr, hq, hr, hb2, rfl, oQ, oR⟩)
      obtain ⟨aR, cR, rfl, rR, nR, k1, k2⟩ := own_data oR
      obtain ⟨pr, hlt⟩ := PolOk.of_rem ho.out.2 HD.out hr
      have HG2 := Lib.hid (hRG.out.below hb2)
      have HR2 := Lib.hid rR
      have HO2 := Lib.hid (And.intro ho.out.2 pr)
      have HN2 : Hid ((aG = none → mG = 0 ∧ cG = 0) ∧ (aR = none → r.length = 0 ∧ cR = 0)) := ⟨hn.out.2, nR⟩
      have HGC : Hid (∀ h, GcdIs p G r h → GcdIs p f g h) := fun h hh => hgc.out h (.step F G r h (by rw [← hl.out.2]; exact h0) hr hh)
      have HB2 := Lib.hid (hb.out.trans (hb2.mono hb.out.size))
      have hlt2 : r.length < mG := by rw [hl.out.2]; exact hlt
      have HL2 : Hid (mG = G.length ∧ r.length = r.length) := ⟨hl.out.2, rfl⟩
      clear oQ oR hq hr hb2 rR nR pr hlt k1 k2
      go_roundw
      case rel => exact ⟨G, r, aG, aR, mG, r.length, cG, cR, rfl, rfl, HL2, HO2, HN2, HG2, HR2, HGC, HB2⟩
      case measure => simpa using hlt2
    · have d1 : decide ((0 : Int) < mG) = false := by simp; omega
      have hG0 : G = [] := List.eq_nil_of_length_eq_zero (by rw [← hl.out.2]; omega)
      have HGI : Hid (GcdIs p f g F) := by
        have := hgc.out F
        rw [hG0] at this
        exact this (.done F)
      clear hG0
      by_cases hF0 : mF = 0
      · have hz : ((mF : Int) == 0) = true := by simp [hF0]
        have hfin : Hid (GcdPost p f g w (.returned (.tuple #[.slice none 0 0, .int .i64 0])) wr) := ⟨[], _, ⟨F, HGI.out, .inl ⟨by rw [← hl.out.1]; exact hF0, rfl⟩⟩, hb.out, rfl, World.ownsRow_nil _ _ _ _⟩
        clear hF0
        go_wp2_with fail
        go_ret2
        exact hfin.out
      · have hz : ((mF : Int) == 0) = false := by simp [hF0]
        obtain ⟨i2, i3, i4, i5⟩ := pinv_of ho.out.1 (by rw [← hl.out.1]; omega)
        obtain ⟨l, hll⟩ : ∃ l, co F (F.length - 1) = l := ⟨_, rfl⟩
        obtain ⟨V, hV⟩ : ∃ V, pinv p F = V := ⟨_, rfl⟩
        have hlb := ho.out.1.inF.co (by omega) (F.length - 1)
        rw [hll] at hlb i5
        have CI := Lib.hid (fun w => rest_Inverse l p w (by omega) (by omega) (by omega) (by omega) i5)
        have hVe : bezX (l % p) p = V := by rw [← hV, ← hll]; rfl
        rw [hVe] at CI
        rw [hV] at i2 i3
        obtain ⟨j, hj⟩ : ∃ j, mF - 1 = j := ⟨_, rfl⟩
        obtain ⟨b, o, rfl, hcl⟩ := hRF.out j (.int .i64 l) (by rw [List.getElem?_map, co_some (by rw [← hl.out.1]; omega), ← hj, hl.out.1, hll]; rfl)
        have hjw : IntKind.i64.wrap ((mF : Int) - 1) = j := by rw [show (mF : Int) - 1 = j by omega]; exact IntWalk.i64_in _ (by omega)
        have j0 : (0 : Int) ≤ j := by omega
        have j1 : (j : Int) < mF := by omega
        have HV := Lib.hid hV
        have hpos : Hid (0 < F.length) := by show _ < _; rw [← hl.out.1]; omega
        have hInV : Hid (InF p [V]) := by
          intro x hx
          simp at hx
          subst hx
          exact ⟨i2, i3⟩
        have hI1 := ho.out.1.inF
        clear hll hV hVe hj hF0 i4 i5
        go_wp2_with (first | (go_at_call 80; refine (CI.out _).mono ?_; rintro e w' ⟨rfl, n3, rfl⟩; have HRF3 := Lib.hid ((hRF.out.drew n3).alloc (.cells #[.int .i64 V] 3)); have HRV : Hid (Reads ((wr.drewN n3).alloc (.cells #[.int .i64 V] 3)) (some ⟨wr.heap.size, 0, none⟩) ([V].map (Value.int .i64))) := reads_new (wr.drewN n3) #[.int .i64 V] 3; have hb3 : Below w.heap.size w ((wr.drewN n3).alloc (.cells #[.int .i64 V] 3)) := (below_drewN hb.out n3).alloc (by exact hb.out.size) _) | (go_at_call 79; refine (poly_Product p F [V] mF 1 (some ⟨b, o, none⟩) (some ⟨wr.heap.size, 0, none⟩) cF 1 _ p1 p2 hl.out.1.symm rfl (by omega) (by omega) hI1 hInV HRF3 HRV).mono ?_; rintro e w4 ⟨h, hpol, v, rfl, hv1, hv2⟩))
        go_ret2
        refine ⟨h, v, ⟨F, HGI.out, .inr ⟨hpos.out, ⟨hpol.1, fun k => by rw [hpol.2, conv_single, HV.out]⟩⟩⟩, hb3.trans (hv2.mono hb3.size), rfl, own_mono hv1 hb3.size⟩
end Go.Proofs.Ytiljppeamdoocaa
