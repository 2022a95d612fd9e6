/- poly.Div; FieldErr, PolyErr and Short of the reference. -/
import Derived.Test.YtmgpohomgblkkaaDoorPoly5
import Derived.Test.YtmgpohomgblkkaaDoorUnitsM
namespace Go.Proofs.YtmgpohomgblkkaaDoor
open Go.RowKit

theorem gI_prime {p l : Int} (hp : IsPr p.toNat) (h0 : 0 < l) (h1 : l < p) : gI (l % p) p = 1 := by
  obtain ⟨n, rfl⟩ : ∃ n : Nat, p = n := ⟨p.toNat, by omega⟩
  rw [Int.toNat_natCast] at hp
  rw [gI_a]
  have hd1 := Nat.gcd_dvd_left l.natAbs n
  have hd2 := Nat.gcd_dvd_right l.natAbs n
  have hle := Nat.le_of_dvd (by omega) hd1
  have hpos : 0 < Nat.gcd l.natAbs n := Nat.gcd_pos_of_pos_left _ (by omega)
  rcases Nat.lt_or_ge (Nat.gcd l.natAbs n) 2 with h | h
  · have : Nat.gcd l.natAbs n = 1 := by omega
    rw [this]; rfl
  · exact absurd hd2 (hp.2 _ h (by omega))
theorem inv_of {p : Int} {g : List Int} (OG : PolOk p g) (hn : 0 < g.length) : ∃ inv, bezX (co g (g.length - 1) % p) p = inv ∧ 0 ≤ inv ∧ inv < p ∧ inv * co g (g.length - 1) % p = 1 ∧ gI (co g (g.length - 1) % p) p = 1 := by
  have h1 := OG.p1
  have hb := OG.inF.co (by omega) (g.length - 1)
  have hne : co g (g.length - 1) ≠ 0 := by
    rcases OG.trm with h | h
    · omega
    · exact h
  have hg := gI_prime OG.pr (show 0 < co g (g.length - 1) by omega) hb.2
  obtain ⟨b1, b2, b3⟩ := bez_inv (show 1 ≤ p by omega) hg
  refine ⟨_, rfl, b1, b2, ?_, hg⟩
  generalize bezX (co g (g.length - 1) % p) p = x at b3 ⊢
  rw [Int.emod_eq_of_lt hb.1 hb.2] at b3
  rw [b3]
  exact Int.emod_eq_of_lt (by omega) (by omega)
theorem divOk_of {p inv : Int} {f g : List Int} (OF : PolOk p f) (OG : PolOk p g) (hn : 0 < g.length) (hi : inv * co g (g.length - 1) % p = 1) : DivOk p inv g f := ⟨by have := OF.p1; omega, OF.inF, OG.inF, hn, hi⟩
def Div3Post (p inv : Int) (f g : List Int) (w : World) (e : Ending) (w' : World) : Prop :=
  ∃ q r vq vr, (Trm q ∧ ∀ k, co q k = quo p inv g f k) ∧ (Trm r ∧ ∀ k, co r k = rdn p inv g (co f) (KOf f g) (KOf f g) k) ∧ Below w.heap.size w w' ∧ e = .returned (.tuple #[vq, vr, .int .i64 0]) ∧
    w'.ownsRow w.heap.size 3 1 vq q.length (q.map (Value.int .i64)) ∧ w'.ownsRow w.heap.size 3 1 vr r.length (r.map (Value.int .i64))
theorem tlen_take_succ (zs : List Int) (k : Nat) : tlen (zs.take (k + 1)) = if co zs k = 0 then tlen (zs.take k) else k + 1 := by
  split
  · rename_i h
    refine tlen_ext fun i => ?_
    rw [co_take, co_take]
    by_cases h1 : i < k
    · rw [if_pos (by omega), if_pos h1]
    · rw [if_neg h1]
      by_cases h2 : i < k + 1
      · rw [if_pos h2, show i = k by omega, h]
      · rw [if_neg h2]
  · rename_i h
    have h1 : k < tlen (zs.take (k + 1)) := tlen_gt_of (by rw [co_take, if_pos (by omega)]; exact h)
    have h2 : tlen (zs.take (k + 1)) ≤ k + 1 := tlen_le_of fun i hi => by rw [co_take, if_neg (by omega)]
    omega
set_option maxRecDepth 20000 in
set_option maxHeartbeats 1000000 in
theorem ref_Short (zs : List Int) (n : Nat) (ao : Option Addr) (cap base : Nat) (w : World) (hn : n ≤ 1000000000) (hl : zs.length = n) (hc : n ≤ cap) (hc2 : cap ≤ 9223372036854775807) (hnone : ao = none → n = 0 ∧ cap = 0) (hR : Hid (Reads w ao (zs.map (Value.int .i64)))) (hb : base ≤ w.heap.size) :
    Calls Tryd.prog 18 #[.slice ao n cap] w (ListPost base (trim zs) w) := by
  have HL := Lib.hid hl
  have HN := Lib.hid hnone
  have HB := Lib.hid hb
  clear hl hnone hb
  go_enter Tryd.func18, Tryd.ntmps18
  go_wp2_with fail
  go_loop [3, 8] (fun vt vi => ∃ k t : Nat, vi = .int .i64 k ∧ k ≤ n ∧ vt = .int .i64 t ∧ t ≤ k ∧ Hid (t = tlen (zs.take k))) (fun _ vi => n - (intOf vi).toNat)
  case atStart => exact ⟨0, 0, rfl, by omega, rfl, by omega, by show _ = _; rw [List.take_zero]; rfl⟩
  case round =>
    obtain ⟨k, t, rfl, hk, rfl, htk, ht⟩ := hrel
    by_cases hkn : k < n
    · obtain ⟨x, hx⟩ : ∃ x, co zs k = x := ⟨_, rfl⟩
      obtain ⟨b, o, rfl, hcx⟩ := hR.out k (.int .i64 x) (by rw [List.getElem?_map, co_some (by rw [HL.out]; omega), hx]; rfl)
      cases hz : (x != 0) with
      | true =>
        have ht2 : Hid (k + 1 = tlen (zs.take (k + 1))) := by show _ = _; rw [tlen_take_succ, if_neg (by rw [hx]; simpa using hz)]
        clear hx
        go_wp2_with fail
        go_round
        case rel => exact ⟨k + 1, k + 1, by go_num, by omega, by go_num, by omega, ht2⟩
        case measure => simp [intOf]; omega
      | false =>
        have ht2 : Hid (t = tlen (zs.take (k + 1))) := by show _ = _; rw [tlen_take_succ, if_pos (by rw [hx]; simpa using hz)]; exact ht.out
        clear hx
        go_wp2_with fail
        go_round
        case rel => exact ⟨k + 1, t, by go_num, by omega, rfl, by omega, ht2⟩
        case measure => simp [intOf]; omega
    · have hfin : Hid (t = tlen zs) := by
        show _ = _
        rw [ht.out, List.take_of_length_le (by rw [HL.out]; omega)]
      have hR2 : Hid (Reads w ao ((trim zs).map (Value.int .i64))) := reads_take hR.out _
      have hl2 : (trim zs).length = t := by rw [length_trim, hfin.out]
      have HN2 : Hid (ao = none → t = 0 ∧ cap = 0) := fun h => ⟨by have := (HN.out h).1; omega, (HN.out h).2⟩
      have t0 : (0 : Int) ≤ t := by omega
      have t1 : (t : Int) ≤ cap := by omega
      have t2 : t ≤ cap := by omega
      have htn : t ≤ n := by omega
      have hkk : k = n := by omega
      subst hkk
      go_wp2_with (go_at_call 31; refine (clone_int (trim zs) t ao cap base _ (by omega) hl2 HN2.out hR2 HB.out).mono ?_; rintro e w' ⟨v, rfl, hv⟩)
      go_ret
      exact ⟨v, rfl, hv⟩
end Go.Proofs.YtmgpohomgblkkaaDoor
