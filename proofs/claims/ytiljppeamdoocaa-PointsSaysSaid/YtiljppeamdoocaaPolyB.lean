/- Common and ValueAt of the reference. -/
import Derived.Test.YtiljppeamdoocaaPoly9
import Derived.Test.YtiljppeamdoocaaPolyV
namespace Go.Proofs.Ytiljppeamdoocaa
open Go.RowKit

def ComPost (p : Int) (f g : List Int) (w : World) (e : Ending) (w' : World) : Prop := ∃ m, MonIs p f g m ∧ ListPost w.heap.size m w e w'
set_option maxRecDepth 100000 in
set_option maxHeartbeats 4000000 in
theorem ref_Common (p : Int) : ∀ (n : Nat) (f g : List Int) (ao bo : Option Addr) (nf ng ca cb : Nat) (w : World), ng ≤ n → f.length = nf → g.length = ng → PolOk p f → PolOk p g → (ao = none → nf = 0 ∧ ca = 0) → (bo = none → ng = 0 ∧ cb = 0) → nf ≤ ca → ca ≤ 9223372036854775807 → ng ≤ cb → cb ≤ 9223372036854775807 →
    Hid (Reads w ao (f.map (Value.int .i64))) → Hid (Reads w bo (g.map (Value.int .i64))) →
    Calls Try.prog 47 #[.int .i64 p, .slice ao nf ca, .slice bo ng cb] w (ComPost p f g w) := by
  intro n
  induction n with
  | zero =>
    intro f g ao bo nf ng ca cb w hn hlf hlg OF' OG' hna hnb hca hca2 hcb hcb2 hF hG
    obtain rfl : ng = 0 := by omega
    have hg0 : g = [] := List.eq_nil_of_length_eq_zero hlg
    have HG0 := Lib.hid hg0
    have OF := Lib.hid OF'
    have HLF := Lib.hid hlf
    have p1 := OF'.p1
    have p2 := OF'.p2
    have l1 := OF'.len
    rw [hlf] at l1
    by_cases hF0 : nf = 0
    · have hz : ((nf : Int) == 0) = true := by simp [hF0]
      have hfin : Hid (ComPost p f g w (.returned (.slice none 0 0)) w) := ⟨[], ⟨f, by rw [hg0]; exact .done f, .inl ⟨by omega, rfl⟩⟩, _, rfl, World.ownsRow_nil _ _ _ _, Below.refl _ _⟩
      clear hF0 hlf hlg hg0 OF' OG' hna hnb hn
      go_enter Try.func47, Try.ntmps47
      go_wp2_with fail
      go_ret
      exact hfin.out
    · have hz : ((nf : Int) == 0) = false := by simp [hF0]
      obtain ⟨i2, i3, i4, i5⟩ := pinv_of OF' (by omega)
      obtain ⟨l, hll⟩ : ∃ l, co f (f.length - 1) = l := ⟨_, rfl⟩
      have hlb := OF'.inF.co (by omega) (f.length - 1)
      obtain ⟨V, hV⟩ : ∃ V : Nat, pinv p f = V := ⟨(pinv p f).toNat, by omega⟩
      rw [hll] at hlb i4 i5
      rw [hV] at i2 i3 i4
      have V1 : 1 ≤ V := by
        rcases Nat.eq_zero_or_pos V with h | h
        · subst h; simp at i4
        · exact h
      have HIL := Lib.hid i4
      obtain ⟨j, hj⟩ : ∃ j, nf - 1 = j := ⟨_, rfl⟩
      obtain ⟨b, o, rfl, hcl⟩ := hF.out j (.int .i64 l) (by rw [List.getElem?_map, co_some (by omega), ← hj, ← hlf, hll]; rfl)
      have hjw : IntKind.i64.wrap ((nf : Int) - 1) = j := by rw [show (nf : Int) - 1 = j by omega]; exact IntWalk.i64_in _ (by omega)
      have j0 : (0 : Int) ≤ j := by omega
      have j1 : (j : Int) < nf := by omega
      have e1p : Int.tmod 1 p = 1 := by rw [Int.tmod_eq_emod_of_nonneg (by omega)]; exact Int.emod_eq_of_lt (by omega) (by omega)
      have w1p : IntKind.i64.wrap (1 : Int) = 1 := IntWalk.i64_in _ (by omega)
      have hp0 : ¬ p = 0 := by omega
      have hp1 : 1 < p := by omega
      have HV := Lib.hid hV
      have hpos : Hid (0 < f.length) := by show _ < _; omega
      have hInV : Hid (InF p [(V : Int)]) := by
        intro x hx
        simp at hx
        subst hx
        exact ⟨i2, i3⟩
      have hI1 := OF'.inF
      clear hll hV hj hF0 i4 i5 hlf hlg hg0 OF' OG' hna hnb hn
      go_enter Try.func47, Try.ntmps47
      go_wp2_with fail
      go_loopw [7] (fun vb wr => ∃ (c n : Nat), vb = .int .i64 c ∧ 1 ≤ c ∧ c ≤ V ∧ wr = w.drewN n) (fun vb _ => V - (intOf vb).toNat)
      case atStart => exact ⟨1, 0, rfl, by omega, V1, rfl⟩
      case round =>
        obtain ⟨c, n, rfl, hc1, hcV, rfl⟩ := hrel
        have hcg2 : (w.drewN n).cell? ⟨b, o + j, none⟩ = some (.int .i64 l) := hcl
        have hx := mul_bd (show (0 : Int) ≤ c by omega) (show (c : Int) ≤ 996 by omega) hlb.1 (show l ≤ 996 by omega)
        obtain ⟨x, hxe⟩ : ∃ x, (c : Int) * l = x := ⟨_, rfl⟩
        rw [hxe] at hx
        have wx : IntKind.i64.wrap x = x := IntWalk.i64_in _ (by omega)
        obtain ⟨r, hr⟩ : ∃ r, x % p = r := ⟨_, rfl⟩
        have hrt : Int.tmod x p = r := by rw [Int.tmod_eq_emod_of_nonneg (by omega)]; exact hr
        have hrb : 0 ≤ r ∧ r < p := by rw [← hr]; exact ⟨Int.emod_nonneg _ hp0, Int.emod_lt_of_pos _ (by omega)⟩
        have wr1 : IntKind.i64.wrap r = r := IntWalk.i64_in _ (by omega)
        by_cases hone : r = 1
        · subst hone
          have hn1' : ((1 : Int) != 1) = false := rfl
          have hcv : c = V := by
            have h := inv_same hp1 (by rw [hxe, hr]) HIL.out
            rw [Int.emod_eq_of_lt (by omega) (by omega), Int.emod_eq_of_lt (by omega) (by omega)] at h
            omega
          subst hcv
          have ecp : Int.tmod (c : Int) p = c := by rw [Int.tmod_eq_emod_of_nonneg (by omega)]; exact Int.emod_eq_of_lt (by omega) (by omega)
          have wc1 : IntKind.i64.wrap (c : Int) = c := IntWalk.i64_in _ (by omega)
          have HRF3 : Hid (Reads ((w.drewN (n + 1)).alloc (.cells #[.int .i64 (c : Int)] 3)) (some ⟨b, o, none⟩) (f.map (Value.int .i64))) := (hF.out.drew _).alloc _
          have HRV : Hid (Reads ((w.drewN (n + 1)).alloc (.cells #[.int .i64 (c : Int)] 3)) (some ⟨w.heap.size, 0, none⟩) ([(c : Int)].map (Value.int .i64))) := reads_new (w.drewN (n + 1)) #[.int .i64 (c : Int)] 3
          have hb3 : Hid (Below w.heap.size w ((w.drewN (n + 1)).alloc (.cells #[.int .i64 (c : Int)] 3))) := (below_dr _ w _).alloc (Nat.le_refl _) _
          clear hr
          go_wp2_with fail
          go_region
          go_wp2_with (go_at_call 43; refine (ref_Product p [(c : Int)] f 1 nf (some ⟨w.heap.size, 0, none⟩) (some ⟨b, o, none⟩) 1 ca _ p1 p2 rfl HLF.out (by omega) (by omega) hInV hI1 HRV HRF3).mono ?_; rintro e w4 ⟨h, hpol, v, rfl, hv1, hv2⟩)
          go_ret
          exact ⟨h, ⟨f, by rw [HG0.out]; exact .done f, .inr ⟨hpos.out, ⟨hpol.1, fun k => by rw [hpol.2, single_conv, HV.out, Int.mul_comm]⟩⟩⟩, v, rfl, own_mono hv1 hb3.out.size, hb3.out.trans (hv2.mono hb3.out.size)⟩
        · have hr1 : (r != 1) = true := by simp [hone]
          have hcV2 : c < V := by
            rcases Nat.lt_or_ge c V with h | h
            · exact h
            · obtain rfl : c = V := by omega
              exact absurd (by rw [← hr, ← hxe]; exact HIL.out) hone
          clear hr hone
          go_wp2_with fail
          go_region
          go_wp2_with fail
          go_roundw
          case rel => exact ⟨c + 1, n + 1, by go_num, by omega, by omega, by rw [← World.drewN_drewN]⟩
          case measure => simp [intOf]; omega
  | succ n ih =>
    intro f g ao bo nf ng ca cb w hn hlf hlg OF' OG' hna hnb hca hca2 hcb hcb2 hF hG
    rcases Nat.lt_or_ge ng (n + 1) with hlt | hge
    · exact ih f g ao bo nf ng ca cb w (by omega) hlf hlg OF' OG' hna hnb hca hca2 hcb hcb2 hF hG
    · have hz : ((ng : Int) == 0) = false := by simp; omega
      obtain ⟨i2, i3, i4, i5⟩ := pinv_of OG' (by omega)
      have l1 := OF'.len
      have l2 := OG'.len
      have HD := Lib.hid (divOk_of OF' OG' (by omega) i4)
      have CR := Lib.hid (ref_Remain p (pinv p g) f g nf ng ao bo ca cb w OF'.p2 i2 i3 HD.out OF'.trm hlf hlg (by omega) (by omega) hca hca2 hna hF hG)
      have OG := Lib.hid OG'
      have HLG := Lib.hid hlg
      have hg0 : Hid (0 < g.length) := by show _ < _; omega
      clear i2 i3 i4 i5 l1 l2 hlf hlg OF' OG' hna
      go_enter Try.func47, Try.ntmps47
      go_wp2_with (first | (go_at_call 44; refine CR.out.mono ?_; rintro e w1 ⟨r, tr, cr, hlr, v, rfl, oR, hb1⟩; obtain ⟨aR, cR, rfl, rR, nR, k1, k2⟩ := own_data oR; have hlr2 := (show r.length ≤ n by rw [HLG.out] at hlr; omega)) | (go_at_call 47; refine (ih g r bo aR ng r.length cb cR w1 hlr2 HLG.out rfl OG.out (PolOk.of_rem OG.out HD.out ⟨tr, cr⟩).1 hnb nR hcb hcb2 k1 k2 (hG.out.below hb1) rR).mono ?_; rintro e w2 ⟨m, ⟨h, hgc, hm⟩, v, rfl, hv1, hv2⟩))
      go_ret
      exact ⟨m, ⟨h, .step f g r h hg0.out ⟨tr, cr⟩ hgc, hm⟩, v, rfl, own_mono hv1 hb1.size, hb1.trans (hv2.mono hb1.size)⟩
set_option maxRecDepth 20000 in
set_option maxHeartbeats 1000000 in
theorem ref_ValueAt (p : Int) (f : List Int) (x : Int) (ao : Option Addr) (nf ca : Nat) (w : World) (hp : 2 ≤ p) (hp2 : p ≤ 997) (hx : (Lit.int .i64 x).wf = true) (hlf : f.length = nf) (hnf : nf ≤ 9223372036854775807) (hf : Hid (InF p f)) (hF : Hid (Reads w ao (f.map (Value.int .i64)))) :
    Calls Try.prog 46 #[.int .i64 p, .slice ao nf ca, .int .i64 x] w fun e w' => e = .returned (.int .i64 (evp (x % p) f % p)) ∧ ∃ n, w' = w.drewN n := by
  have hxb : -9223372036854775808 ≤ x ∧ x ≤ 9223372036854775807 := by simpa [Lit.wf, IntKind.min, IntKind.max, IntKind.signed, IntKind.bits] using hx
  have CM := Lib.hid (fun w => ref_mod x p w hxb.1 hxb.2 (by omega) (by omega))
  have z0 : 0 ≤ x % p := Int.emod_nonneg _ (by omega)
  have z1 : x % p < p := Int.emod_lt_of_pos _ (by omega)
  obtain ⟨z, hz⟩ : ∃ z, x % p = z := ⟨_, rfl⟩
  rw [hz] at CM z0 z1 ⊢
  have HLF := Lib.hid hlf
  have hp0 : ¬ p = 0 := by omega
  have e1p : Int.tmod 1 p = 1 := by rw [Int.tmod_eq_emod_of_nonneg (by omega)]; exact Int.emod_eq_of_lt (by omega) (by omega)
  have w1p : IntKind.i64.wrap (1 : Int) = 1 := IntWalk.i64_in _ (by omega)
  have h1p : Hid ((1 : Int) = z ^ 0 % p) := by show _ = _; rw [Int.pow_zero, Int.emod_eq_of_lt (by omega) (by omega)]
  clear hlf hz hx hxb
  go_enter Try.func46, Try.ntmps46
  go_wp2_with fail
  go_region
  go_wp2_with fail
  go_loopw [7, 8, 15] (fun vo vy vi wr => ∃ (k n : Nat) (o y : Int), vi = .int .i64 k ∧ k ≤ nf ∧ vo = .int .i64 o ∧ vy = .int .i64 y ∧ 0 ≤ o ∧ o ≤ 996 ∧ 0 ≤ y ∧ y ≤ 996 ∧ Hid (o = evn z (co f) k % p) ∧ Hid (y = z ^ k % p) ∧ wr = w.drewN n) (fun _ _ vi _ => nf - (intOf vi).toNat)
  case atStart => exact ⟨0, 1, 0, 1, rfl, by omega, rfl, rfl, by omega, by omega, by omega, by omega, (Int.zero_emod p).symm, h1p.out, rfl⟩
  case round =>
    obtain ⟨k, n, o, y, rfl, hk, rfl, rfl, o0, o1, y0, y1, ho, hy, rfl⟩ := hrel
    by_cases hkn : k < nf
    · obtain ⟨c, hc⟩ : ∃ c, co f k = c := ⟨_, rfl⟩
      obtain ⟨b, of, rfl, hcx⟩ := hF.out k (.int .i64 c) (by rw [List.getElem?_map, co_some (by rw [HLF.out]; exact hkn), hc]; rfl)
      have hcx2 : (w.drewN n).cell? ⟨b, of + k, none⟩ = some (.int .i64 c) := hcx
      have hcb := hf.out.co (by omega) k
      rw [hc] at hcb
      have hm1 := mul_bd hcb.1 (show c ≤ 996 by omega) y0 y1
      obtain ⟨m, hm⟩ : ∃ m, c * y = m := ⟨_, rfl⟩
      rw [hm] at hm1
      have wm : IntKind.i64.wrap m = m := IntWalk.i64_in _ (by omega)
      have ws : IntKind.i64.wrap (o + m) = o + m := IntWalk.i64_in _ (by omega)
      obtain ⟨r, hr⟩ : ∃ r, (o + m) % p = r := ⟨_, rfl⟩
      have hrt : Int.tmod (o + m) p = r := by rw [Int.tmod_eq_emod_of_nonneg (by omega)]; exact hr
      have hrb := pol_bd (by omega) hp2 _ hr.symm
      have wr1 : IntKind.i64.wrap r = r := IntWalk.i64_in _ (by omega)
      have hq1 := mul_bd y0 y1 z0 (show z ≤ 996 by omega)
      obtain ⟨q, hq⟩ : ∃ q, y * z = q := ⟨_, rfl⟩
      rw [hq] at hq1
      have wq : IntKind.i64.wrap q = q := IntWalk.i64_in _ (by omega)
      obtain ⟨t, ht⟩ : ∃ t, q % p = t := ⟨_, rfl⟩
      have htt : Int.tmod q p = t := by rw [Int.tmod_eq_emod_of_nonneg (by omega)]; exact ht
      have htb := pol_bd (by omega) hp2 _ ht.symm
      have wt : IntKind.i64.wrap t = t := IntWalk.i64_in _ (by omega)
      have HO : Hid (r = evn z (co f) (k + 1) % p) := by
        show r = (evn z (co f) k + co f k * z ^ k) % p
        rw [← hr, ← hm, hc, ho.out, hy.out, Int.emod_add_emod, Int.add_emod, Int.mul_emod, Int.emod_emod_of_dvd _ (Int.dvd_refl p), ← Int.mul_emod, ← Int.add_emod]
      have HY : Hid (t = z ^ (k + 1) % p) := by
        show _ = _
        rw [← ht, ← hq, hy.out, Int.pow_succ, Int.mul_emod, Int.emod_emod_of_dvd _ (Int.dvd_refl p), ← Int.mul_emod]
      clear hr ht hc
      go_wp2_with (go_at_call 102; refine (CM.out _).mono ?_; rintro e w' ⟨rfl, n3, rfl⟩)
      go_roundw
      case rel => exact ⟨k + 1, n + n3, r, t, by go_num, by omega, rfl, rfl, hrb.1, hrb.2, htb.1, htb.2, HO, HY, rfl⟩
      case measure => simp [intOf]; omega
    · have hfin : Hid (o = evp z f % p) := by
        show _ = _
        rw [ho.out, show k = f.length by rw [HLF.out]; omega]; rfl
      go_wp2_with fail
      go_ret
      exact ⟨ret_int hfin.out, _, rfl⟩
end Go.Proofs.Ytiljppeamdoocaa
