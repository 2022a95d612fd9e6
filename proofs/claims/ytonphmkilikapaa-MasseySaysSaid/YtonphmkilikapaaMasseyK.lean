/- MasseySays: the walk where all lists are right. -/
import Derived.Test.YtonphmkilikapaaRows
import Derived.Test.YtonphmkilikapaaMasseyL
namespace Go.Proofs.Ytonphmkilikapaa
open Go.RowKit
attribute [local go_sem] bits_and_bv bits_xor_bv bv_ne bv_zero

set_option maxRecDepth 100000 in
set_option maxHeartbeats 2000000 in
theorem masseySays_ok (zs rs : List Int) (ao bo : Option Addr) (cap cap2 : Nat) (w : World) (h1 : IntsIn .u8 w ao zs.length zs) (h2 : IntsIn .u8 w bo rs.length rs) (hco : CapOk ao zs.length cap) (hz : chkN zs = 0) (hr : chkN rs = 0) (hrl : rs.length ≤ zs.length) :
    Calls Try.prog 13 #[.slice ao zs.length cap, .slice bo rs.length cap2] w fun e w' => e = .returned (.bool true) ∧ Below w.heap.size w w' := by
  have hl1 := h1.2.1
  have hl2 := h2.2.1
  have HN := Lib.hid (massey_Next zs rs ao bo cap cap2 w h1 h2 hz hr hrl)
  have HRu := Lib.hid (fun n => massey_Rule zs ao cap (w.drewN n) (h1.drew n) hz)
  have HBE := Lib.hid (fun n => ref_BitsErr zs ao cap (w.drewN n) (h1.drew n))
  have HCh := Lib.hid (fun n => massey_Check zs ao cap (w.drewN n) (h1.drew n))
  have H2 := Lib.hid h2
  have H1 := Lib.hid h1
  obtain ⟨hn60, hs⟩ := bits_reads' h1 hz
  obtain ⟨hm60, hru⟩ := bits_reads' h2 hr
  have HS := Lib.hid hs
  obtain ⟨s, hse⟩ : ∃ s, bitsOf zs = s := ⟨_, rfl⟩
  obtain ⟨u, hue⟩ : ∃ u, bitsOf rs = u := ⟨_, rfl⟩
  obtain ⟨B, hBe⟩ : ∃ B, (xs rs.length fun k => u k && s (zs.length - 1 - k)) = B := ⟨_, rfl⟩
  rw [hse] at HS HRu
  rw [hse, hue, hBe] at HN
  rw [hue] at hru
  have HRUL := Lib.hid hru
  have HGU := Lib.hid (mk_gens s u B zs.length rs.length hrl hBe.symm)
  have hB2 : decide (bv B < 2) = true := by have := bv_bd B; simp; omega
  have HCO := Lib.hid hco
  have HQ := Lib.hid hr
  have HZ := Lib.hid hz
  clear hz hr h1 h2 hs hse hue hBe hru hco
  go_enter Try.func13, Try.ntmps13
  go_wp2_with fail
  refine HN.out.mono ?_
  rintro e w' ⟨rfl, n1, rfl⟩
  go_wp2_with fail
  refine (HRu.out n1).mono ?_
  rintro e w1 ⟨L, c, v, hLN, hg, hmin, rfl, hown, hbel⟩
  obtain ⟨ro, rc, rfl, hRR, hnone, _⟩ := own_reads hown
  have HB1 : Hid (Below w.heap.size w w1) := (below_dr _ _ n1).trans hbel
  have HRR := Lib.hid hRR
  have HG := Lib.hid hg
  have HMIN := Lib.hid hmin
  have H1w := Lib.hid (H1.out.below HB1.out)
  have H2w := Lib.hid (H2.out.below HB1.out)
  have HSw := Lib.hid (HS.out.below HB1.out)
  have hL60 : L ≤ 60 := by omega
  have hRI := Lib.hid (bitsL_in hL60 HRR.out)
  have hRC := Lib.hid (bitsL_chk L c hL60)
  have hRL := Lib.hid (bitsL_len L c)
  have hLL : ((L : Int) != (L : Int)) = false := by simp
  clear hown hbel hRR hnone hg hmin HBE HCh
  go_wp2_with fail
  refine (ref_BitsErr zs ao cap _ H1w.out).mono ?_
  rw [HZ.out]
  rintro e w' ⟨rfl, n2, rfl⟩
  go_wp2_with fail
  refine (massey_Check zs ao cap _ (H1w.out.drew _)).mono ?_
  rw [HZ.out]
  rintro e w' ⟨rfl, n3, rfl⟩
  go_wp2_with fail
  have hcr := ref_BitsErr (bitsL L c) ro rc (w1.drewN (n2 + n3)) (hRI.out.drew _)
  rw [hRL.out, hRC.out] at hcr
  have HCR := Lib.hid hcr
  clear hcr
  refine HCR.out.mono ?_
  rintro e w' ⟨rfl, n4, rfl⟩
  go_wp2_with fail
  obtain ⟨wq, hwq⟩ : ∃ wq, w1.drewN (n2 + n3 + n4) = wq := ⟨_, rfl⟩
  have HBq : Hid (Below w.heap.size w wq) := by rw [← hwq]; exact below_drewN HB1.out _
  have H1q : Hid (IntsIn .u8 wq ao zs.length zs) := by rw [← hwq]; exact H1w.out.drew _
  have H2q : Hid (IntsIn .u8 wq bo rs.length rs) := by rw [← hwq]; exact H2w.out.drew _
  have HSq : Hid (Reads wq ao (rowF zs.length (bvV s))) := by rw [← hwq]; exact HSw.out.drew _
  have HRq : Hid (Reads wq ro (rowF L (bvV c))) := by rw [← hwq]; exact HRR.out.drew _
  rw [hwq]
  clear hwq HCR H1w H2w HSw HRR hRI
  refine (ref_Hangs s zs.length ao cap _ hn60 HSq.out L hLN c HG.out HMIN.out).mono ?_
  rintro e w2 ⟨rfl, hb2⟩
  have HB2 := Lib.hid (HBq.out.trans (Below.mono hb2 HBq.out.size))
  have H12 := Lib.hid (H1q.out.below hb2)
  have H22 := Lib.hid (H2q.out.below hb2)
  have HS2 := Lib.hid (HSq.out.below hb2)
  have HR2 := Lib.hid (HRq.out.below hb2)
  clear hb2
  go_wp2_with fail
  refine (ref_Makes s c zs.length L ao ro cap rc _ (by omega) (by omega) HS2.out HR2.out HG.out).mono ?_
  rintro e w' ⟨rfl, rfl⟩
  go_wp2_with fail
  refine (ref_BitsErr rs bo cap2 _ H22.out).mono ?_
  rw [HQ.out]
  rintro e w' ⟨rfl, n5, rfl⟩
  have HR5 := Lib.hid ((HRUL.out.below HB2.out).drew n5)
  have HS5 := Lib.hid (HS2.out.drew n5)
  have HB5 := Lib.hid (below_drewN HB2.out n5)
  obtain ⟨w5, hw5⟩ : ∃ w5, w2.drewN n5 = w5 := ⟨_, rfl⟩
  rw [hw5] at HR5 HS5 HB5 ⊢
  have f3 : decide ((zs.length : Int) < rs.length) = false := by simp; omega
  have f4 : decide (zs.length < rs.length) = false := by simp; omega
  clear hw5
  obtain ⟨m, hme⟩ : ∃ m, rs.length = m := ⟨_, rfl⟩
  rw [hme] at HR5 HRUL HGU hrl hm60 f3 f4 ⊢
  have HME := Lib.hid hme
  clear hme HRq HSq HBq HR5
  by_cases hm0 : m = 0
  · subst hm0
    have hc0 := HCO.out
    by_cases hcN : cap = zs.length
    · go_wp2_with fail
      refine (clone_u8 0 [] ao _ w.heap.size w5 (by omega) rfl (fun h => ⟨rfl, by omega⟩) (Reads.nil _ _) (by intro u hu; simp at hu) HB5.out.size).mono ?_
      rintro e w6 ⟨v6, rfl, hown6, hb6⟩
      have HB6 := Lib.hid (HB5.out.trans hb6)
      have HR6 := Lib.hid (HRUL.out.below HB6.out)
      have HO6 := Lib.hid hown6
      clear hown6 hb6
      go_wp2_with (at_builtin; go_must (refine app_guarded (by simp [Region.wanted, yielded]) (.tmp 100) (.tmp 102) _ (by rfl) w.heap.size 5 _ 1 Try.underlying93 u8Info v6 0 [] (by rfl) HO6.out (.int .u8 (bv B)) (by rfl) rfl (by unfold maxLen; omega) (by omega) HB6.out.size ?_); intro g7 c7 w7 hown7 hb7)
      have hR7 : Hid (Reads w7 (some ⟨g7, 0, none⟩) (rowF (0 + 1) (bvV fun j => if j < 0 then s (zs.length - 0 + j) else B))) := by
        rw [← mk_reads]
        obtain ⟨ao7, cp7, hv7, hR7, _, _⟩ := own_reads hown7
        cases hv7
        exact hR7
      have HB7 := Lib.hid (HB6.out.trans hb7)
      have HR7 := Lib.hid (HRUL.out.below HB7.out)
      clear hown7 hb7
      refine (ref_Makes (fun j => if j < 0 then s (zs.length - 0 + j) else B) u (0 + 1) 0 _ bo c7 cap2 _ (by omega) (by omega) hR7 HR7.out HGU.out).mono ?_
      rintro e w' ⟨rfl, rfl⟩
      go_wp2_with fail
      go_ret
      exact ⟨by simp, HB7.out⟩
    · go_wp2_with fail
      refine (clone_u8 0 [] _ _ w.heap.size w5 (by omega) rfl (by
        intro h
        refine ⟨rfl, ?_⟩
        cases ao with
        | none => have := hc0.1 rfl; omega
        | some a => simp at h) (Reads.nil _ _) (by intro u hu; simp at hu) HB5.out.size).mono ?_
      rintro e w6 ⟨v6, rfl, hown6, hb6⟩
      have HB6 := Lib.hid (HB5.out.trans hb6)
      have HR6 := Lib.hid (HRUL.out.below HB6.out)
      have HO6 := Lib.hid hown6
      clear hown6 hb6
      go_wp2_with (at_builtin; go_must (refine app_guarded (by simp [Region.wanted, yielded]) (.tmp 100) (.tmp 102) _ (by rfl) w.heap.size 5 _ 1 Try.underlying93 u8Info v6 0 [] (by rfl) HO6.out (.int .u8 (bv B)) (by rfl) rfl (by unfold maxLen; omega) (by omega) HB6.out.size ?_); intro g7 c7 w7 hown7 hb7)
      have hR7 : Hid (Reads w7 (some ⟨g7, 0, none⟩) (rowF (0 + 1) (bvV fun j => if j < 0 then s (zs.length - 0 + j) else B))) := by
        rw [← mk_reads]
        obtain ⟨ao7, cp7, hv7, hR7, _, _⟩ := own_reads hown7
        cases hv7
        exact hR7
      have HB7 := Lib.hid (HB6.out.trans hb7)
      have HR7 := Lib.hid (HRUL.out.below HB7.out)
      clear hown7 hb7
      refine (ref_Makes (fun j => if j < 0 then s (zs.length - 0 + j) else B) u (0 + 1) 0 _ bo c7 cap2 _ (by omega) (by omega) hR7 HR7.out HGU.out).mono ?_
      rintro e w' ⟨rfl, rfl⟩
      go_wp2_with fail
      go_ret
      exact ⟨by simp, HB7.out⟩
  · have hc0 := HCO.out
    have hcne : ¬ cap = zs.length - m := by have := hc0.2.1; omega
    obtain ⟨b, o, hao, _⟩ := HS5.out 0 _ (rowF_get (bvV s) (by omega))
    subst hao
    have hR7 : Hid (Reads w5 (some ⟨b, o + (zs.length - m), none⟩) (rowF m (bvV fun j => s (zs.length - m + j)))) := by
      intro j x hx
      have hjL : j < m := by
        have := (List.getElem?_eq_some_iff.1 hx).1
        rwa [rowF_length] at this
      rw [rowF_get _ hjL] at hx
      injection hx with hx
      obtain ⟨b', o', hbo, hcell⟩ := HS5.out (zs.length - m + j) _ (rowF_get (bvV s) (by omega))
      injection hbo with hbo
      injection hbo with h1 h2
      subst h1 h2
      refine ⟨b, o + (zs.length - m), rfl, ?_⟩
      rw [← hx, Nat.add_assoc]; exact hcell
    clear hc0
    have hlen : zs.length - (zs.length - m) = m := by omega
    go_wp2_with fail
    refine (clone_u8 m (rowF m (bvV fun j => s (zs.length - m + j))) (some ⟨b, o + (zs.length - m), none⟩) _ w.heap.size w5 (by omega) (rowF_length _ _) (fun h => by cases h) hR7 (rowF_one (fun j => rfl)) HB5.out.size).mono ?_
    rintro e w6 ⟨v6, rfl, hown6, hb6⟩
    have HB6 := Lib.hid (HB5.out.trans hb6)
    have HR6 := Lib.hid (HRUL.out.below HB6.out)
    have HO6 := Lib.hid hown6
    clear hown6 hb6
    go_wp2_with (at_builtin; go_must (refine app_guarded (by simp [Region.wanted, yielded]) (.tmp 100) (.tmp 102) _ (by rfl) w.heap.size 5 _ 1 Try.underlying93 u8Info v6 m (rowF m (bvV fun j => s (zs.length - m + j))) (by rfl) HO6.out (.int .u8 (bv B)) (by rfl) rfl (by unfold maxLen; omega) (by omega) HB6.out.size ?_); intro g7 c7 w7 hown7 hb7)
    have hR7 : Hid (Reads w7 (some ⟨g7, 0, none⟩) (rowF (m + 1) (bvV fun j => if j < m then s (zs.length - m + j) else B))) := by
      rw [← mk_reads]
      obtain ⟨ao7, cp7, hv7, hR7, _, _⟩ := own_reads hown7
      cases hv7
      exact hR7
    have HB7 := Lib.hid (HB6.out.trans hb7)
    have HR7 := Lib.hid (HRUL.out.below HB7.out)
    clear hown7 hb7
    refine (ref_Makes (fun j => if j < m then s (zs.length - m + j) else B) u (m + 1) m _ bo c7 cap2 _ (by omega) (by omega) hR7 HR7.out HGU.out).mono ?_
    rintro e w' ⟨rfl, rfl⟩
    go_wp2_with fail
    go_ret
    exact ⟨by simp, HB7.out⟩

theorem masseySays_walk (ao : Option Addr) (len cap : Nat) (zs : List Int) (bo : Option Addr) (len2 cap2 : Nat) (rs : List Int) (w : World)
    (h1 : IntsIn .u8 w ao len zs ∧ CapOk ao len cap) (h2 : IntsIn .u8 w bo len2 rs ∧ CapOk bo len2 cap2) :
    Calls Try.prog 13 #[.slice ao len cap, .slice bo len2 cap2] w fun e w' => e = .returned (.bool true) ∧ Below w.heap.size w w' := by
  obtain rfl := h1.1.1
  obtain rfl := h2.1.1
  by_cases hz : chkN zs = 0
  · by_cases hr : chkN rs = 0
    · by_cases hl : rs.length ≤ zs.length
      · exact masseySays_ok zs rs ao bo cap cap2 w h1.1 h2.1 h1.2 hz hr hl
      · exact masseySays_half zs rs ao bo cap cap2 w h1.1 h2.1 hz (.inr ⟨hr, by omega⟩)
    · exact masseySays_half zs rs ao bo cap cap2 w h1.1 h2.1 hz (.inl hr)
  · exact masseySays_bad zs rs ao bo cap cap2 w h1.1 h2.1 hz
end Go.Proofs.Ytonphmkilikapaa
