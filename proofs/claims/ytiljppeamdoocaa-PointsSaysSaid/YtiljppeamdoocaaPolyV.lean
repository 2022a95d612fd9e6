/- Polynomials: values. The plain law. No program. -/
import Derived.Test.YtiljppeamdoocaaPolyM
namespace Go.Proofs.Ytiljppeamdoocaa

/-- The value of the first n terms. -/
def evn (z : Int) (c : Nat → Int) : Nat → Int
  | 0 => 0
  | n + 1 => evn z c n + c n * z ^ n
theorem evn_congr (z p : Int) {c d : Nat → Int} : ∀ n, (∀ k, k < n → c k % p = d k % p) → evn z c n % p = evn z d n % p
  | 0, _ => rfl
  | n + 1, h => by
    show (evn z c n + c n * z ^ n) % p = (evn z d n + d n * z ^ n) % p
    rw [Int.add_emod, Int.mul_emod, evn_congr z p n (fun k hk => h k (by omega)), h n (by omega), ← Int.mul_emod, ← Int.add_emod]
theorem evn_add (z : Int) (c d : Nat → Int) : ∀ n, evn z (fun k => c k + d k) n = evn z c n + evn z d n
  | 0 => rfl
  | n + 1 => by
    show evn z (fun k => c k + d k) n + (c n + d n) * z ^ n = (evn z c n + c n * z ^ n) + (evn z d n + d n * z ^ n)
    rw [evn_add z c d n]
    grind
theorem evn_smul (z a : Int) (c : Nat → Int) : ∀ n, evn z (fun k => c k * a) n = evn z c n * a
  | 0 => by simp [evn]
  | n + 1 => by
    show evn z (fun k => c k * a) n + c n * a * z ^ n = (evn z c n + c n * z ^ n) * a
    rw [evn_smul z a c n]
    grind
def shf (c : Nat → Int) (k : Nat) : Int := if 0 < k then c (k - 1) else 0
theorem evn_shf (z : Int) (c : Nat → Int) : ∀ n, evn z (shf c) (n + 1) = z * evn z c n
  | 0 => by simp [evn, shf]
  | n + 1 => by
    show evn z (shf c) (n + 1) + shf c (n + 1) * z ^ (n + 1) = z * (evn z c n + c n * z ^ n)
    rw [evn_shf z c n]
    have : shf c (n + 1) = c n := by unfold shf; rw [if_pos (by omega)]; rfl
    rw [this, Int.pow_succ]
    grind
theorem evn_more (z : Int) (c : Nat → Int) (n : Nat) (h : ∀ k, n ≤ k → c k = 0) : ∀ m, evn z c (n + m) = evn z c n
  | 0 => rfl
  | m + 1 => by
    show evn z c (n + m) + c (n + m) * z ^ (n + m) = _
    rw [evn_more z c n h m, h _ (by omega), Int.zero_mul, Int.add_zero]
def evp (z : Int) (f : List Int) : Int := evn z (co f) f.length
theorem evp_more (z : Int) (f : List Int) {n : Nat} (h : f.length ≤ n) : evn z (co f) n = evp z f := by
  obtain ⟨m, rfl⟩ : ∃ m, n = f.length + m := ⟨n - f.length, by omega⟩
  exact evn_more z (co f) f.length (fun k hk => co_out hk) m
/-- The value from the top down (HORNER). -/
theorem horner (z p : Int) (c : Nat → Int) (n : Nat) : ∀ t, t ≤ n → ∀ h : Int, (evn z c (n - t) + h * z ^ (n - t)) % p = evn z c n % p → t < n →
    (evn z c (n - (t + 1)) + (h * z + c (n - 1 - t)) % p * z ^ (n - (t + 1))) % p = evn z c n % p := by
  intro t ht h he hlt
  obtain ⟨m, hm⟩ : ∃ m, n - t = m + 1 := ⟨n - t - 1, by omega⟩
  have e1 : n - (t + 1) = m := by omega
  have e2 : n - 1 - t = m := by omega
  rw [hm] at he
  rw [e1, e2, ← he]
  show _ = (evn z c m + c m * z ^ m + h * z ^ (m + 1)) % p
  rw [Int.pow_succ]
  have : evn z c m + c m * z ^ m + h * (z ^ m * z) = evn z c m + (h * z + c m) * z ^ m := by grind
  rw [this, Int.add_emod, Int.emod_mul_emod_left, ← Int.add_emod]
  where Int.emod_mul_emod_left {a b p : Int} : (a % p * b) % p = (a * b) % p := by rw [Int.mul_emod, Int.emod_emod_of_dvd _ (Int.dvd_refl p), ← Int.mul_emod]
theorem conv_pair (f : List Int) (a : Int) (k : Nat) : conv f [a, 1] k = co f k * a + shf (co f) k := by
  have hs : ∀ i, sh [a, 1] i k = if k = i then a else if k = i + 1 then 1 else 0 := by
    intro i
    unfold sh
    rcases Nat.lt_trichotomy k i with h | h | h
    · rw [if_neg (by omega), if_neg (by omega), if_neg (by omega)]
    · subst h; rw [if_pos (by omega), if_pos rfl, Nat.sub_self]; rfl
    · rw [if_pos (by omega), if_neg (by omega)]
      by_cases h2 : k = i + 1
      · rw [if_pos h2, h2, show i + 1 - i = 1 by omega]; rfl
      · rw [if_neg h2]; exact co_out (by simp; omega)
  have h : ∀ i, cvn f [a, 1] i k = (if k < i then co f k * a else 0) + (if 0 < k ∧ k - 1 < i then co f (k - 1) else 0) := by
    intro i
    induction i with
    | zero => simp [cvn]
    | succ i ih =>
      unfold cvn
      rw [ih, hs]
      by_cases hk : 0 < k
      · rcases Nat.lt_trichotomy k i with h | h | h
        · have e : k - 1 < i + 1 := by omega
          have e2 : k - 1 < i := by omega
          simp [hk, h, show k < i + 1 by omega, show ¬ k = i by omega, show ¬ k = i + 1 by omega, e, e2]
        · subst h
          have e : k - 1 < k + 1 := by omega
          have e2 : k - 1 < k := by omega
          simp [hk, e, e2]
          omega
        · by_cases h2 : k = i + 1
          · subst h2
            simp [show ¬ i + 1 < i by omega]
          · have e : ¬ k - 1 < i + 1 := by omega
            have e2 : ¬ k - 1 < i := by omega
            simp [h2, e, e2, show ¬ k < i by omega, show ¬ k < i + 1 by omega, show ¬ k = i by omega]
      · obtain rfl : k = 0 := by omega
        cases i with
        | zero => simp
        | succ i => simp
  unfold conv
  rw [h]
  congr 1
  · split
    · rfl
    · rw [co_out (by omega)]; simp
  · unfold shf
    by_cases hk : 0 < k
    · rw [if_pos hk]
      split
      · rfl
      · rw [co_out (by omega)]
    · rw [if_neg hk, if_neg (by omega)]
/-- A factor more: the value is multiplied. -/
theorem evp_pair {z p a : Int} {f h : List Int} (hp : IsPol p (conv f [a, 1]) h) : evp z h % p = evp z f * (a + z) % p := by
  have hl : h.length ≤ f.length + 1 := hp.len fun k hk => by
    rw [conv_pair]
    unfold shf
    rw [if_pos (by omega), co_out (by omega), co_out (by omega)]
    simp
  rw [← evp_more z h hl, evn_congr z p (d := fun k => co f k * a + shf (co f) k) _ (fun k _ => by rw [hp.2, Int.emod_emod_of_dvd _ (Int.dvd_refl p), conv_pair]), evn_add, evn_shf,
    evn_smul, evp_more z f (by omega)]
  unfold evp
  congr 1
  grind
end Go.Proofs.Ytiljppeamdoocaa
