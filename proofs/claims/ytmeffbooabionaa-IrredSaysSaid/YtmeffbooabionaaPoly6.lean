/- poly.Div; FieldErr, PolyErr and Short of the reference. -/
import Derived.Test.YtmeffbooabionaaPoly5
import Derived.Test.YtmeffbooabionaaIrM24
set_option linter.unusedVariables false
set_option linter.unusedSimpArgs false
namespace Go.Proofs.Ytmeffbooabionaa
open Go.RowKit

theorem gI_prime {p l : Int} (hp : IsPr p.toNat) (h0 : 0 < l) (h1 : l < p) : gI (l % p) p = 1 := by
  obtain ⟨n, rfl⟩ : ∃ n : Nat, p = n := ⟨p.toNat, by omega⟩
  rw [Int.toNat_natCast] at hp
  rw [gI_a]
  have hd1 := Nat.gcd_dvd_left l.natAbs n
  have hd2 := Nat.gcd_dvd_right l.natAbs n
  have hle := Nat.le_of_dvd (by omega) hd1
  have hpos : 0 < Nat.gcd l.natAbs n := Nat.gcd_pos_of_pos_left _ (by omega)
  rcases Nat.lt_or_ge (Nat.gcd l.natAbs n) 2 with h | h
  · have : Nat.gcd l.natAbs n = 1 := by omega
    rw [this]; rfl
  · exact absurd hd2 (hp.2 _ h (by omega))
theorem inv_of {p : Int} {g : List Int} (OG : PolOk p g) (hn : 0 < g.length) : ∃ inv, bezX (co g (g.length - 1) % p) p = inv ∧ 0 ≤ inv ∧ inv < p ∧ inv * co g (g.length - 1) % p = 1 ∧ gI (co g (g.length - 1) % p) p = 1 := by
  have h1 := OG.p1
  have hb := OG.inF.co (by omega) (g.length - 1)
  have hne : co g (g.length - 1) ≠ 0 := by
    rcases OG.trm with h | h
    · omega
    · exact h
  have hg := gI_prime OG.pr (show 0 < co g (g.length - 1) by omega) hb.2
  obtain ⟨b1, b2, b3⟩ := bez_inv (show 1 ≤ p by omega) hg
  refine ⟨_, rfl, b1, b2, ?_, hg⟩
  generalize bezX (co g (g.length - 1) % p) p = x at b3 ⊢
  rw [Int.emod_eq_of_lt hb.1 hb.2] at b3
  rw [b3]
  exact Int.emod_eq_of_lt (by omega) (by omega)
theorem divOk_of {p inv : Int} {f g : List Int} (OF : PolOk p f) (OG : PolOk p g) (hn : 0 < g.length) (hi : inv * co g (g.length - 1) % p = 1) : DivOk p inv g f := ⟨by have := OF.p1; omega, OF.inF, OG.inF, hn, hi⟩
def Div3Post (p inv : Int) (f g : List Int) (w : World) (e : Ending) (w' : World) : Prop :=
  ∃ q r vq vr, (Trm q ∧ ∀ k, co q k = quo p inv g f k) ∧ (Trm r ∧ ∀ k, co r k = rdn p inv g (co f) (KOf f g) (KOf f g) k) ∧ Below w.heap.size w w' ∧ e = .returned (.tuple #[vq, vr, .int .i64 0]) ∧
    w'.ownsRow w.heap.size 3 1 vq q.length (q.map (Value.int .i64)) ∧ w'.ownsRow w.heap.size 3 1 vr r.length (r.map (Value.int .i64))
set_option maxRecDepth 20000 in
set_option maxHeartbeats 1000000 in
theorem ref_FieldErr (p : Int) (w : World) (_h : (Lit.int .i64 p).wf = true) :
    Calls Try.prog 27 #[.int .i64 p] w fun e w' => e = .returned (.int .i64 (fldE p)) ∧ w' = w := by
  cases d1 : decide (p < 2) with
  | true =>
    have hE : Hid (fldE p = 1) := fldE_one (by simp at d1; omega)
    go_enter Try.func27, Try.ntmps27
    go_wp2_with fail
    go_ret
    exact ⟨by rw [hE.out]; rfl, rfl⟩
  | false =>
    cases d2 : decide (997 < p) with
    | true =>
      have hE : Hid (fldE p = 1) := fldE_one (by simp at d2; omega)
      go_enter Try.func27, Try.ntmps27
      go_wp2_with fail
      go_ret
      exact ⟨by rw [hE.out]; rfl, rfl⟩
    | false =>
      simp at d1 d2
      obtain ⟨n, rfl⟩ : ∃ n : Nat, p = n := ⟨p.toNat, by omega⟩
      have e1 : decide ((n : Int) < 2) = false := by simp; omega
      have e2 : decide ((997 : Int) < n) = false := by simp; omega
      have hn : n ≤ 1000000 := by omega
      cases hb : prB n with
      | false =>
        have hE : Hid (fldE (n : Int) = 1) := fldE_one (by rw [Int.toNat_natCast]; exact fun h => by rw [prB_true h.2.2] at hb; cases hb)
        have HB := Lib.hid hb
        clear hb d1 d2
        go_enter Try.func27, Try.ntmps27
        go_wp2_with (go_at_call 54; refine (ref_Prime n _ hn).mono ?_; rw [HB.out]; rintro e w' ⟨rfl, rfl⟩)
        go_ret
        exact ⟨by rw [hE.out]; rfl, rfl⟩
      | true =>
        have hE : Hid (fldE (n : Int) = 0) := fldE_zero (by omega) (by omega) (by rw [Int.toNat_natCast]; exact prB_iff.1 hb)
        have HB := Lib.hid hb
        clear hb d1 d2
        go_enter Try.func27, Try.ntmps27
        go_wp2_with (go_at_call 54; refine (ref_Prime n _ hn).mono ?_; rw [HB.out]; rintro e w' ⟨rfl, rfl⟩)
        go_ret
        exact ⟨by rw [hE.out]; rfl, rfl⟩
theorem ref_out (x p : Int) (b : Nat) (w : World) (hc : w.cell? ⟨b, 0, none⟩ = some (.int .i64 p)) :
    Calls Try.prog 52 #[.int .i64 x, .pointer (some ⟨b, 0, none⟩)] w fun e w' => e = .returned (.bool (outF p x)) ∧ w' = w := by
  go_enter Try.func52, Try.ntmps52
  unfold outF
  cases h : decide (x < 0) with
  | true =>
    go_wp2_with fail
    go_ret
    exact ⟨by simp, rfl⟩
  | false =>
    go_wp2_with fail
    go_ret
    exact ⟨by simp, rfl⟩
set_option maxRecDepth 20000 in
set_option maxHeartbeats 1000000 in
theorem ref_PolyErr (p : Int) (zs : List Int) (ao : Option Addr) (n cap : Nat) (w : World) (hp : (Lit.int .i64 p).wf = true) (hl : zs.length = n) (h63 : n ≤ 9223372036854775807) (hR : Hid (Reads w ao (zs.map (Value.int .i64)))) :
    Calls Try.prog 24 #[.int .i64 p, .slice ao n cap] w fun e w' => e = .returned (.int .i64 (polE p zs)) ∧ Below w.heap.size w w' := by
  have HL := Lib.hid hl
  have hb := Lib.hid ((Below.refl w.heap.size w).alloc (Nat.le_refl _) (.cells #[.int .i64 p] 3))
  have HR := Lib.hid (hR.out.alloc (.cells #[.int .i64 p] 3))
  have HP := Lib.hid hp
  have hc0 : Hid ((w.alloc (.cells #[.int .i64 p] 3)).cell? ⟨w.heap.size, 0, none⟩ = some (.int .i64 p)) := by show _ = _; simp [World.cell?_alloc_new]
  clear hl hp
  rcases fldE_cases p with ⟨hf, p1, p2, p3⟩ | hf
  · have HF := Lib.hid hf
    clear p3
    by_cases h40 : 40 < n
    · have hE : Hid (polE p zs = 2) := by show _ = _; unfold polE; rw [HF.out, if_neg (by omega), if_pos (by rw [HL.out]; exact h40)]
      have d1 : decide ((40 : Int) < n) = true := by simp; omega
      clear hf h40
      go_enter Try.func24, Try.ntmps24
      go_wp2_with (go_at_call 27; refine (ref_FieldErr p _ HP.out).mono ?_; rw [HF.out]; rintro e w' ⟨rfl, rfl⟩)
      go_ret
      exact ⟨by rw [hE.out]; rfl, hb.out⟩
    · have d1 : decide ((40 : Int) < n) = false := by simp; omega
      have hany : ∃ b, zs.any (outF p) = b := ⟨_, rfl⟩
      obtain ⟨b, hany⟩ := hany
      have HA := Lib.hid hany
      have hCF : Hid (Calls Try.prog 51 #[.slice ao zs.length cap, .func (.func 52) #[] #[.pointer (some ⟨w.heap.size, 0, none⟩)]] (w.alloc (.cells #[.int .i64 p] 3)) fun e w' => e = .returned (.bool (zs.any (outF p))) ∧ ∃ n, w' = (w.alloc (.cells #[.int .i64 p] 3)).drewN n) := by
        refine containsFunc_cap 52 (.pointer (some ⟨w.heap.size, 0, none⟩)) (fun x W => by go_simp) (outF p) zs ao cap _ (by rw [HL.out]; exact h63) HR ?_
        intro x hx m
        refine (ref_out x p w.heap.size ((w.alloc (.cells #[.int .i64 p] 3)).drewN m) (show World.cell? _ _ = _ from hc0.out)).mono ?_
        rintro e w' ⟨rfl, rfl⟩
        exact ⟨rfl, 0, rfl⟩
      rw [HA.out, HL.out] at hCF
      cases b with
      | true =>
        have hE : Hid (polE p zs = 1) := by show _ = _; unfold polE; rw [HF.out, if_neg (by omega), if_neg (by rw [HL.out]; exact h40), if_pos HA.out]
        clear hf h40 hany
        go_enter Try.func24, Try.ntmps24
        go_wp2_with (first | (go_at_call 27; refine (ref_FieldErr p _ HP.out).mono ?_; rw [HF.out]; rintro e w' ⟨rfl, rfl⟩) | (go_at_call 51; refine hCF.out.mono ?_; rintro e w' ⟨rfl, m, rfl⟩))
        go_ret
        exact ⟨by rw [hE.out]; rfl, below_drewN hb.out m⟩
      | false =>
        by_cases h0 : 0 < n
        · have d2 : decide ((0 : Int) < n) = true := by simp; omega
          obtain ⟨x, hx⟩ : ∃ x, co zs (n - 1) = x := ⟨_, rfl⟩
          obtain ⟨b, o, rfl, hcx⟩ := HR.out (n - 1) (.int .i64 x) (by rw [List.getElem?_map, co_some (by rw [HL.out]; omega), hx]; rfl)
          obtain ⟨j, hj⟩ : ∃ j, n - 1 = j := ⟨_, rfl⟩
          have hj2 : (n : Int) - 1 = j := by omega
          have hjl : j < n := by omega
          have hw1 : IntKind.i64.wrap ((n : Int) - 1) = j := by rw [hj2]; exact IntWalk.i64_in _ (by omega)
          have j0 : (0 : Int) ≤ j := by omega
          have j1 : (j : Int) < n := by omega
          rw [hj] at hcx
          have HX : Hid (co zs (zs.length - 1) = x) := by show _ = _; rw [HL.out]; exact hx
          cases hz : (x == 0) with
          | true =>
            have hE : Hid (polE p zs = 3) := by show _ = _; unfold polE; rw [HF.out, if_neg (by omega), if_neg (by rw [HL.out]; exact h40), if_neg (by rw [HA.out]; simp), if_pos ⟨by rw [HL.out]; exact h0, by rw [HX.out]; simpa using hz⟩]
            clear hf h40 hany hj hj2 hx
            go_enter Try.func24, Try.ntmps24
            go_wp2_with (first | (go_at_call 27; refine (ref_FieldErr p _ HP.out).mono ?_; rw [HF.out]; rintro e w' ⟨rfl, rfl⟩) | (go_at_call 51; refine hCF.out.mono ?_; rintro e w' ⟨rfl, m, rfl⟩))
            go_ret
            exact ⟨by rw [hE.out]; rfl, below_drewN hb.out m⟩
          | false =>
            have hE : Hid (polE p zs = 0) := by show _ = _; unfold polE; rw [HF.out, if_neg (by omega), if_neg (by rw [HL.out]; exact h40), if_neg (by rw [HA.out]; simp), if_neg (by rw [HX.out]; intro h; simp [h.2] at hz)]
            clear hf h40 hany hj hj2 hx
            go_enter Try.func24, Try.ntmps24
            go_wp2_with (first | (go_at_call 27; refine (ref_FieldErr p _ HP.out).mono ?_; rw [HF.out]; rintro e w' ⟨rfl, rfl⟩) | (go_at_call 51; refine hCF.out.mono ?_; rintro e w' ⟨rfl, m, rfl⟩))
            go_ret
            exact ⟨by rw [hE.out]; rfl, below_drewN hb.out m⟩
        · have hE : Hid (polE p zs = 0) := by show _ = _; unfold polE; rw [HF.out, if_neg (by omega), if_neg (by rw [HL.out]; exact h40), if_neg (by rw [HA.out]; simp), if_neg (by rw [HL.out]; omega)]
          have d2 : decide ((0 : Int) < n) = false := by simp; omega
          clear hf h40 hany
          go_enter Try.func24, Try.ntmps24
          go_wp2_with (first | (go_at_call 27; refine (ref_FieldErr p _ HP.out).mono ?_; rw [HF.out]; rintro e w' ⟨rfl, rfl⟩) | (go_at_call 51; refine hCF.out.mono ?_; rintro e w' ⟨rfl, m, rfl⟩))
          go_ret
          exact ⟨by rw [hE.out]; rfl, below_drewN hb.out m⟩
  · have HF := Lib.hid hf
    have hE : Hid (polE p zs = 1) := by show _ = _; unfold polE; rw [HF.out, if_pos rfl]
    clear hf
    go_enter Try.func24, Try.ntmps24
    go_wp2_with (go_at_call 27; refine (ref_FieldErr p _ HP.out).mono ?_; rw [HF.out]; rintro e w' ⟨rfl, rfl⟩)
    go_ret
    exact ⟨by rw [hE.out]; rfl, hb.out⟩
theorem tlen_take_succ (zs : List Int) (k : Nat) : tlen (zs.take (k + 1)) = if co zs k = 0 then tlen (zs.take k) else k + 1 := by
  split
  · rename_i h
    refine tlen_ext fun i => ?_
    rw [co_take, co_take]
    by_cases h1 : i < k
    · rw [if_pos (by omega), if_pos h1]
    · rw [if_neg h1]
      by_cases h2 : i < k + 1
      · rw [if_pos h2, show i = k by omega, h]
      · rw [if_neg h2]
  · rename_i h
    have h1 : k < tlen (zs.take (k + 1)) := tlen_gt_of (by rw [co_take, if_pos (by omega)]; exact h)
    have h2 : tlen (zs.take (k + 1)) ≤ k + 1 := tlen_le_of fun i hi => by rw [co_take, if_neg (by omega)]
    omega
set_option maxRecDepth 20000 in
set_option maxHeartbeats 1000000 in
theorem ref_Short (zs : List Int) (n : Nat) (ao : Option Addr) (cap base : Nat) (w : World) (hn : n ≤ 1000000000) (hl : zs.length = n) (hc : n ≤ cap) (hc2 : cap ≤ 9223372036854775807) (hnone : ao = none → n = 0 ∧ cap = 0) (hR : Hid (Reads w ao (zs.map (Value.int .i64)))) (hb : base ≤ w.heap.size) :
    Calls Try.prog 77 #[.slice ao n cap] w (ListPost base (trim zs) w) := by
  have HL := Lib.hid hl
  have HN := Lib.hid hnone
  have HB := Lib.hid hb
  clear hl hnone hb
  go_enter Try.func77, Try.ntmps77
  go_wp2_with fail
  go_loop [3, 8] (fun vt vi => ∃ k t : Nat, vi = .int .i64 k ∧ k ≤ n ∧ vt = .int .i64 t ∧ t ≤ k ∧ Hid (t = tlen (zs.take k))) (fun _ vi => n - (intOf vi).toNat)
  case atStart => exact ⟨0, 0, rfl, by omega, rfl, by omega, by show _ = _; rw [List.take_zero]; rfl⟩
  case round =>
    obtain ⟨k, t, rfl, hk, rfl, htk, ht⟩ := hrel
    by_cases hkn : k < n
    · obtain ⟨x, hx⟩ : ∃ x, co zs k = x := ⟨_, rfl⟩
      obtain ⟨b, o, rfl, hcx⟩ := hR.out k (.int .i64 x) (by rw [List.getElem?_map, co_some (by rw [HL.out]; omega), hx]; rfl)
      cases hz : (x != 0) with
      | true =>
        have ht2 : Hid (k + 1 = tlen (zs.take (k + 1))) := by show _ = _; rw [tlen_take_succ, if_neg (by rw [hx]; simpa using hz)]
        clear hx
        go_wp2_with fail
        go_round
        case rel => exact ⟨k + 1, k + 1, by go_num, by omega, by go_num, by omega, ht2⟩
        case measure => simp [intOf]; omega
      | false =>
        have ht2 : Hid (t = tlen (zs.take (k + 1))) := by show _ = _; rw [tlen_take_succ, if_pos (by rw [hx]; simpa using hz)]; exact ht.out
        clear hx
        go_wp2_with fail
        go_round
        case rel => exact ⟨k + 1, t, by go_num, by omega, rfl, by omega, ht2⟩
        case measure => simp [intOf]; omega
    · have hfin : Hid (t = tlen zs) := by
        show _ = _
        rw [ht.out, List.take_of_length_le (by rw [HL.out]; omega)]
      have hR2 : Hid (Reads w ao ((trim zs).map (Value.int .i64))) := reads_take hR.out _
      have hl2 : (trim zs).length = t := by rw [length_trim, hfin.out]
      have HN2 : Hid (ao = none → t = 0 ∧ cap = 0) := fun h => ⟨by have := (HN.out h).1; omega, (HN.out h).2⟩
      have t0 : (0 : Int) ≤ t := by omega
      have t1 : (t : Int) ≤ cap := by omega
      have t2 : t ≤ cap := by omega
      have htn : t ≤ n := by omega
      have hkk : k = n := by omega
      subst hkk
      go_wp2_with (go_at_call 73; refine (clone_int (trim zs) t ao cap base _ (by omega) hl2 HN2.out hR2 HB.out).mono ?_; rintro e w' ⟨v, rfl, hv⟩)
      go_ret
      exact ⟨v, rfl, hv⟩
end Go.Proofs.Ytmeffbooabionaa
