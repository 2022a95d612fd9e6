/- poly.Divided. -/
import Derived.Test.YtmgpohomgblkkaaDoorPoly4
import Derived.Test.YtmgpohomgblkkaaDoorRestB
namespace Go.Proofs.YtmgpohomgblkkaaDoor
open Go.RowKit

def remS (p c : Int) (S : Nat → Int) (g : List Int) (k j i : Nat) : Int := if k ≤ i ∧ i < k + j then (S i - c * co g (i - k)) % p else S i
theorem remS_zero (p c : Int) (S : Nat → Int) (g : List Int) (k i : Nat) : remS p c S g k 0 i = S i := by unfold remS; rw [if_neg (by omega)]
theorem remS_step (p c : Int) (S : Nat → Int) (g : List Int) (k j i : Nat) : remS p c S g k (j + 1) i = if i = k + j then (S (k + j) + (p - c) * co g j) % p else remS p c S g k j i := by
  unfold remS
  by_cases h : i = k + j
  · subst h
    rw [if_pos rfl, if_pos (by omega), Nat.add_sub_cancel_left]
    have e : S (k + j) + (p - c) * co g j = (S (k + j) - c * co g j) + p * co g j := by grind
    rw [e, Int.add_mul_emod_self_left]
  · rw [if_neg h]
    by_cases h2 : k ≤ i ∧ i < k + j
    · rw [if_pos h2, if_pos (by omega)]
    · rw [if_neg h2, if_neg (by omega)]
theorem remS_at (p c : Int) (S : Nat → Int) (g : List Int) (k j : Nat) : remS p c S g k j (k + j) = S (k + j) := by unfold remS; rw [if_neg (by omega)]
theorem sub_mul_mod (s c t p : Int) : (s - c % p * t) % p = (s - c * t) % p := by
  have hm : c = c % p + p * (c / p) := (Int.emod_add_mul_ediv c p).symm
  have e : s - c * t = (s - c % p * t) + p * (-(c / p) * t) := by
    generalize c % p = m at hm ⊢
    generalize c / p = d at hm ⊢
    subst hm
    grind
  rw [e, Int.add_mul_emod_self_left]
theorem remS_full {p inv : Int} {g f : List Int} (D : DivOk p inv g f) (K t i : Nat) :
    remS p (rdn p inv g (co f) K t (K - 1 - t + g.length - 1) * inv % p) (rdn p inv g (co f) K t) g (K - 1 - t) g.length i = rdn p inv g (co f) K (t + 1) i := by
  show _ = (rdn p inv g (co f) K t i - rdn p inv g (co f) K t (K - 1 - t + g.length - 1) * inv * sh g (K - 1 - t) i) % p
  unfold remS
  by_cases h : K - 1 - t ≤ i ∧ i < K - 1 - t + g.length
  · rw [if_pos h, sub_mul_mod]
    congr 2
    unfold sh
    rw [if_pos h.1]
  · rw [if_neg h]
    have : sh g (K - 1 - t) i = 0 := by
      rcases Nat.lt_or_ge i (K - 1 - t) with h2 | h2
      · exact sh_lt g h2
      · exact sh_ge g (by omega)
    rw [this, Int.mul_zero, Int.sub_zero, rdn_mod D]
def quoS (p inv : Int) (g f : List Int) (t k : Nat) : Int := if KOf f g - t ≤ k then quo p inv g f k else 0
theorem quoS_zero {p inv : Int} {g f : List Int} (k : Nat) : quoS p inv g f 0 k = 0 := by
  unfold quoS quo
  split
  · rw [if_neg (by omega)]
  · rfl
theorem quoS_step {p inv : Int} {g f : List Int} (t k : Nat) (ht : t < KOf f g) : quoS p inv g f (t + 1) k = if k = KOf f g - 1 - t then rdn p inv g (co f) (KOf f g) t (KOf f g - 1 - t + g.length - 1) * inv % p else quoS p inv g f t k := by
  unfold quoS
  by_cases h : k = KOf f g - 1 - t
  · rw [if_pos h, if_pos (by omega)]
    unfold quo
    rw [if_pos (by omega), h, show KOf f g - 1 - (KOf f g - 1 - t) = t by omega]
  · rw [if_neg h]
    by_cases h2 : KOf f g - t ≤ k
    · rw [if_pos h2, if_pos (by omega)]
    · rw [if_neg h2, if_neg (by omega)]
/-- What Divided hands back. -/
def DivPost (p inv : Int) (f g : List Int) (w : World) (e : Ending) (w' : World) : Prop :=
  ∃ q r vq vr, (Trm q ∧ ∀ k, co q k = quo p inv g f k) ∧ (Trm r ∧ ∀ k, co r k = rdn p inv g (co f) (KOf f g) (KOf f g) k) ∧ Below w.heap.size w w' ∧ e = .returned (.tuple #[vq, vr]) ∧
    w'.ownsRow w.heap.size 3 1 vq q.length (q.map (Value.int .i64)) ∧ w'.ownsRow w.heap.size 3 1 vr r.length (r.map (Value.int .i64))
theorem own_data {w : World} {base e : Nat} {v : Value} {n : Nat} {xs : List Value} (h : w.ownsRow base e 1 v n xs) : ∃ ao cap, v = .slice ao n cap ∧ Reads w ao xs ∧ (ao = none → n = 0 ∧ cap = 0) ∧ n ≤ cap ∧ cap ≤ 9223372036854775807 := by
  obtain ⟨ao, cap, hv, hR, hn, _⟩ := own_reads h
  refine ⟨ao, cap, hv, hR, hn, ?_⟩
  rcases h.2 with ⟨h1, h2⟩ | ⟨g, cp, cur, hv3, h2⟩
  · rw [h1] at hv
    injection hv with e1 e2 e3
    omega
  · rw [hv3] at hv
    injection hv with e1 e2 e3
    have := h2.2.2.1
    have := h2.2.2.2.1
    unfold maxLen at *
    omega
theorem own_self {w : World} {base e g n cap : Nat} {f : List Int} (h : w.ownsRow base e 1 (.slice (some ⟨g, 0, none⟩) n cap) n (f.map (Value.int .i64))) (hl : f.length = n) : Own w base e g n cap (iV (co f)) := by
  unfold Own
  rw [map_iV, hl] at h
  exact h
theorem rdn_bd' {p inv : Int} {g f : List Int} (D : DivOk p inv g f) (hp : p ≤ 997) (K t j : Nat) {s : Int} (h : rdn p inv g (co f) K t j = s) : 0 ≤ s ∧ s ≤ 996 := by
  have := rdn_bd D K t j
  omega
theorem own_cap {w : World} {base e g n cap : Nat} {f : Nat → Value} (h : Own w base e g n cap f) : n ≤ cap ∧ cap ≤ 9223372036854775807 := by
  obtain ⟨ao, c, hv, _, _, h1, h2⟩ := own_data h
  injection hv with e1 e2 e3
  subst e3
  exact ⟨h1, h2⟩
end Go.Proofs.YtmgpohomgblkkaaDoor
