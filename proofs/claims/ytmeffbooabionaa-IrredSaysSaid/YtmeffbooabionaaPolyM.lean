/- Polynomials over a prime field as lists of coefficients: the plain law. No program. -/
import Derived.Test.YtmeffbooabionaaBase
set_option linter.unusedVariables false
set_option linter.unusedSimpArgs false
namespace Go.Proofs.Ytmeffbooabionaa

def co (f : List Int) (k : Nat) : Int := f[k]?.getD 0
/-- The length without the zeros at the end. -/
def tlen : List Int → Nat
  | [] => 0
  | x :: xs => if tlen xs = 0 then (if x = 0 then 0 else 1) else tlen xs + 1
def trim (f : List Int) : List Int := f.take (tlen f)
def Trm (f : List Int) : Prop := f.length = 0 ∨ co f (f.length - 1) ≠ 0
def InF (p : Int) (f : List Int) : Prop := ∀ x, x ∈ f → 0 ≤ x ∧ x < p

theorem co_nil (k : Nat) : co [] k = 0 := by simp [co]
theorem co_cons_zero (x : Int) (f : List Int) : co (x :: f) 0 = x := by simp [co]
theorem co_cons_succ (x : Int) (f : List Int) (k : Nat) : co (x :: f) (k + 1) = co f k := by simp [co]
theorem co_out {f : List Int} {k : Nat} (h : f.length ≤ k) : co f k = 0 := by unfold co; rw [List.getElem?_eq_none h]; rfl
theorem co_get {f : List Int} {k : Nat} {x : Int} (h : f[k]? = some x) : co f k = x := by unfold co; rw [h]; rfl
theorem co_some {f : List Int} {k : Nat} (h : k < f.length) : f[k]? = some (co f k) := by unfold co; rw [List.getElem?_eq_getElem h]; rfl
theorem tlen_le : ∀ f : List Int, tlen f ≤ f.length
  | [] => Nat.le_refl _
  | x :: xs => by
    have := tlen_le xs
    unfold tlen
    simp only [List.length_cons]
    split
    · split <;> omega
    · omega
theorem co_ge : ∀ (f : List Int) (k : Nat), tlen f ≤ k → co f k = 0
  | [], k, _ => co_nil k
  | x :: xs, 0, h => by
    rw [co_cons_zero]
    unfold tlen at h
    split at h
    · split at h
      · assumption
      · omega
    · omega
  | x :: xs, k + 1, h => by
    rw [co_cons_succ]
    refine co_ge xs k ?_
    unfold tlen at h
    split at h
    · omega
    · omega
theorem co_last : ∀ f : List Int, 0 < tlen f → co f (tlen f - 1) ≠ 0
  | [], h => by simp [tlen] at h
  | x :: xs, h => by
    unfold tlen at h ⊢
    split at h
    · rename_i h0
      split at h
      · omega
      · rename_i hx
        rw [if_pos h0, if_neg hx, Nat.sub_self, co_cons_zero]
        exact hx
    · rename_i h0
      rw [if_neg h0]
      obtain ⟨m, hm⟩ : ∃ m, tlen xs = m + 1 := ⟨tlen xs - 1, by omega⟩
      have h2 := co_last xs (by omega)
      rw [hm] at h2 ⊢
      simp only [Nat.add_sub_cancel] at h2 ⊢
      rw [co_cons_succ]
      exact h2
theorem tlen_le_of {f : List Int} {n : Nat} (h : ∀ k, n ≤ k → co f k = 0) : tlen f ≤ n := by
  rcases Nat.lt_or_ge n (tlen f) with hl | hl
  · exact absurd (h (tlen f - 1) (by omega)) (co_last f (by omega))
  · exact hl
theorem tlen_gt_of {f : List Int} {k : Nat} (h : co f k ≠ 0) : k < tlen f := by
  rcases Nat.lt_or_ge k (tlen f) with hl | hl
  · exact hl
  · exact absurd (co_ge f k hl) h
theorem co_take (f : List Int) (n k : Nat) : co (f.take n) k = if k < n then co f k else 0 := by
  unfold co
  rw [List.getElem?_take]
  split <;> rfl
theorem co_trim (f : List Int) (k : Nat) : co (trim f) k = co f k := by
  unfold trim
  rw [co_take]
  split
  · rfl
  · rename_i h
    exact (co_ge f k (by omega)).symm
theorem length_trim (f : List Int) : (trim f).length = tlen f := by
  unfold trim
  rw [List.length_take]
  exact Nat.min_eq_left (tlen_le f)
theorem trm_trim (f : List Int) : Trm (trim f) := by
  unfold Trm
  rw [length_trim, co_trim]
  rcases Nat.eq_zero_or_pos (tlen f) with h | h
  · exact .inl h
  · exact .inr (co_last f h)
theorem trm_nil : Trm [] := .inl rfl
theorem ext_co {f g : List Int} (hl : f.length = g.length) (h : ∀ k, co f k = co g k) : f = g := by
  refine List.ext_getElem hl fun k h1 h2 => ?_
  have := h k
  unfold co at this
  rw [List.getElem?_eq_getElem h1, List.getElem?_eq_getElem h2] at this
  exact this
theorem Trm.tlen {f : List Int} (h : Trm f) : tlen f = f.length := by
  have := tlen_le f
  rcases h with h | h
  · omega
  · have := tlen_gt_of h
    omega
theorem tlen_ext {f g : List Int} (h : ∀ k, co f k = co g k) : tlen f = tlen g := by
  have h1 : tlen f ≤ tlen g := tlen_le_of fun k hk => by rw [h k]; exact co_ge g k hk
  have h2 : tlen g ≤ tlen f := tlen_le_of fun k hk => by rw [← h k]; exact co_ge f k hk
  omega
theorem trm_ext {f g : List Int} (hf : Trm f) (hg : Trm g) (h : ∀ k, co f k = co g k) : f = g :=
  ext_co (by rw [← hf.tlen, ← hg.tlen, tlen_ext h]) h
theorem trim_trm {f : List Int} (h : Trm f) : trim f = f := trm_ext (trm_trim f) h (co_trim f)
theorem InF.co {p : Int} {f : List Int} (h : InF p f) (hp : 0 < p) (k : Nat) : 0 ≤ co f k ∧ co f k < p := by
  rcases Nat.lt_or_ge k f.length with hk | hk
  · exact h _ (List.mem_of_getElem? (co_some hk))
  · rw [co_out hk]; omega
theorem InF.mod {p : Int} {f : List Int} (h : InF p f) (hp : 0 < p) (k : Nat) : Go.Proofs.Ytmeffbooabionaa.co f k % p = Go.Proofs.Ytmeffbooabionaa.co f k := Int.emod_eq_of_lt (h.co hp k).1 (h.co hp k).2
theorem InF.of_co {p : Int} {f : List Int} (h : ∀ k, 0 ≤ Go.Proofs.Ytmeffbooabionaa.co f k ∧ Go.Proofs.Ytmeffbooabionaa.co f k < p) : InF p f := by
  intro x hx
  obtain ⟨k, hk⟩ := List.getElem?_of_mem hx
  have := h k
  rwa [co_get hk] at this
theorem InF.nil (p : Int) : InF p [] := fun x hx => by cases hx
/-- The trimmed list whose coefficients are c, modulo p. -/
def IsPol (p : Int) (c : Nat → Int) (f : List Int) : Prop := Trm f ∧ ∀ k, co f k = c k % p
theorem IsPol.uniq {p : Int} {c d : Nat → Int} {f g : List Int} (hf : IsPol p c f) (hg : IsPol p d g) (h : ∀ k, c k % p = d k % p) : f = g :=
  trm_ext hf.1 hg.1 fun k => by rw [hf.2, hg.2, h]
theorem IsPol.inF {p : Int} {c : Nat → Int} {f : List Int} (hp : 0 < p) (h : IsPol p c f) : InF p f :=
  InF.of_co fun k => by rw [h.2]; exact ⟨Int.emod_nonneg _ (by omega), Int.emod_lt_of_pos _ hp⟩
theorem IsPol.len {p : Int} {c : Nat → Int} {f : List Int} (h : IsPol p c f) {n : Nat} (h0 : ∀ k, n ≤ k → c k % p = 0) : f.length ≤ n := by
  rw [← h.1.tlen]
  exact tlen_le_of fun k hk => by rw [h.2]; exact h0 k hk
theorem isPol_trim {p : Int} {c : Nat → Int} {f : List Int} (h : ∀ k, co f k = c k % p) : IsPol p c (trim f) := ⟨trm_trim f, fun k => by rw [co_trim]; exact h k⟩
theorem isPol_self {p : Int} {f : List Int} (hp : 0 < p) (h : InF p f) (ht : Trm f) : IsPol p (co f) f := ⟨ht, fun k => (h.mod hp k).symm⟩

/-! ### Products -/
def sh (g : List Int) (i k : Nat) : Int := if i ≤ k then co g (k - i) else 0
theorem sh_lt (g : List Int) {i k : Nat} (h : k < i) : sh g i k = 0 := by unfold sh; rw [if_neg (by omega)]
theorem sh_ge (g : List Int) {i k : Nat} (h : i + g.length ≤ k) : sh g i k = 0 := by unfold sh; rw [if_pos (by omega)]; exact co_out (by omega)
theorem sh_add (g : List Int) (i j : Nat) : sh g i (i + j) = co g j := by unfold sh; rw [if_pos (by omega), Nat.add_sub_cancel_left]
theorem sh_bd {p : Int} {g : List Int} (hg : InF p g) (hp : 0 < p) (i k : Nat) : 0 ≤ sh g i k ∧ sh g i k < p := by
  unfold sh
  split
  · exact hg.co hp _
  · omega
def cvn (f g : List Int) : Nat → Nat → Int
  | 0, _ => 0
  | i + 1, k => cvn f g i k + co f i * sh g i k
def conv (f g : List Int) (k : Nat) : Int := cvn f g f.length k
theorem cvn_top (f g : List Int) : ∀ (i k : Nat), i + g.length ≤ k + 1 → cvn f g i k = 0
  | 0, _, _ => rfl
  | i + 1, k, h => by
    unfold cvn
    rw [cvn_top f g i k (by omega), sh_ge g (by omega)]
    simp
theorem cvn_out (f g : List Int) (k : Nat) : ∀ n : Nat, cvn f g (f.length + n) k = conv f g k
  | 0 => rfl
  | n + 1 => by
    show cvn f g (f.length + n) k + co f (f.length + n) * sh g (f.length + n) k = _
    rw [cvn_out f g k n, co_out (by omega)]
    simp
theorem conv_single (f : List Int) (c : Int) (k : Nat) : conv f [c] k = co f k * c := by
  have h : ∀ i, cvn f [c] i k = if k < i then co f k * c else 0 := by
    intro i
    induction i with
    | zero => rfl
    | succ i ih =>
      unfold cvn
      rw [ih]
      rcases Nat.lt_trichotomy k i with h | h | h
      · rw [if_pos h, if_pos (by omega), sh_lt _ h]; simp
      · subst h
        rw [if_neg (by omega), if_pos (by omega)]
        have : sh [c] k k = c := by have := sh_add [c] k 0; rw [Nat.add_zero] at this; rw [this]; rfl
        rw [this]; simp
      · rw [if_neg (by omega), if_neg (by omega), sh_ge _ (by simp; omega)]; simp
  unfold conv
  rw [h]
  split
  · rfl
  · rw [co_out (by omega)]; simp
theorem single_conv (f : List Int) (c : Int) (k : Nat) : conv [c] f k = c * co f k := by
  show cvn [c] f 1 k = _
  unfold cvn cvn
  rw [co_cons_zero]
  unfold sh
  simp

/-! ### Division -/
/-- The rest after t steps from the top; the quotient has K places. -/
def rdn (p inv : Int) (g : List Int) (f : Nat → Int) (K : Nat) : Nat → Nat → Int
  | 0 => f
  | t + 1 => fun j => (rdn p inv g f K t j - rdn p inv g f K t (K - 1 - t + g.length - 1) * inv * sh g (K - 1 - t) j) % p
def KOf (f g : List Int) : Nat := f.length + 1 - g.length
structure DivOk (p inv : Int) (g : List Int) (f : List Int) : Prop where
  hp : 1 < p
  hf : InF p f
  hg : InF p g
  hn : 0 < g.length
  hi : inv * co g (g.length - 1) % p = 1
theorem rdn_bd {p inv : Int} {g f : List Int} (D : DivOk p inv g f) (K : Nat) : ∀ t j, 0 ≤ rdn p inv g (co f) K t j ∧ rdn p inv g (co f) K t j < p
  | 0, j => D.hf.co (by have := D.hp; omega) j
  | t + 1, j => ⟨Int.emod_nonneg _ (by have := D.hp; omega), Int.emod_lt_of_pos _ (by have := D.hp; omega)⟩
theorem rdn_mod {p inv : Int} {g f : List Int} (D : DivOk p inv g f) (K : Nat) (t j : Nat) : rdn p inv g (co f) K t j % p = rdn p inv g (co f) K t j :=
  Int.emod_eq_of_lt (rdn_bd D K t j).1 (rdn_bd D K t j).2
theorem lead_out {p s inv l : Int} (h : inv * l % p = 1) : (s - s * inv * l) % p = 0 := by
  have h2 : s - s * inv * l = s * (1 - inv * l) := by rw [Int.mul_sub, Int.mul_one, Int.mul_assoc]
  rw [h2]
  have h3 : (1 - inv * l) % p = 0 := by
    have := Int.emod_add_mul_ediv (inv * l) p
    rw [h] at this
    have e : 1 - inv * l = p * (-(inv * l / p)) := by rw [Int.mul_neg]; omega
    rw [e]
    exact Int.mul_emod_right p _
  rw [Int.mul_emod, h3, Int.mul_zero, Int.zero_emod]
theorem rdn_top {p inv : Int} {g f : List Int} (D : DivOk p inv g f) : ∀ t, t ≤ KOf f g → ∀ j, KOf f g - t + g.length ≤ j + 1 → rdn p inv g (co f) (KOf f g) t j = 0
  | 0, _, j, hj => co_out (by unfold KOf at hj; omega)
  | t + 1, ht, j, hj => by
    have ih := rdn_top D t (by omega)
    have hn := D.hn
    show (rdn p inv g (co f) (KOf f g) t j - rdn p inv g (co f) (KOf f g) t (KOf f g - 1 - t + g.length - 1) * inv * sh g (KOf f g - 1 - t) j) % p = 0
    by_cases he : j = KOf f g - 1 - t + g.length - 1
    · have e2 : j = (KOf f g - 1 - t) + (g.length - 1) := by omega
      rw [← he, show sh g (KOf f g - 1 - t) j = co g (g.length - 1) by rw [e2]; exact sh_add g _ _]
      exact lead_out D.hi
    · rw [ih j (by omega), sh_ge g (by omega), Int.mul_zero]
      rfl
/-- A step at a zero changes nothing. -/
theorem rdn_skip {p inv : Int} {g f : List Int} (D : DivOk p inv g f) (K t : Nat) (h : rdn p inv g (co f) K t (K - 1 - t + g.length - 1) = 0) (j : Nat) : rdn p inv g (co f) K (t + 1) j = rdn p inv g (co f) K t j := by
  show (rdn p inv g (co f) K t j - rdn p inv g (co f) K t (K - 1 - t + g.length - 1) * inv * sh g (K - 1 - t) j) % p = _
  rw [h, Int.zero_mul, Int.zero_mul, Int.sub_zero, rdn_mod D]
/-- The rest does not change while its coefficients are zero. -/
theorem rdn_skips {p inv : Int} {g f : List Int} (D : DivOk p inv g f) {t : Nat} {L : Nat} (hL : ∀ j, L ≤ j → rdn p inv g (co f) (KOf f g) t j = 0) : ∀ m, t + m ≤ KOf f g → L + t + m ≤ KOf f g + g.length - 1 → ∀ j, rdn p inv g (co f) (KOf f g) (t + m) j = rdn p inv g (co f) (KOf f g) t j
  | 0, _, _, _ => rfl
  | m + 1, h1, h2, j => by
    have ih := rdn_skips D hL m (by omega) (by omega)
    have hn := D.hn
    rw [← ih j]
    refine rdn_skip D _ (t + m) ?_ j
    rw [ih]
    exact hL _ (by omega)
/-- The quotient's coefficients. -/
def quo (p inv : Int) (g f : List Int) (k : Nat) : Int := if k < KOf f g then rdn p inv g (co f) (KOf f g) (KOf f g - 1 - k) (k + g.length - 1) * inv % p else 0
theorem div_law {p inv : Int} {g f q : List Int} (D : DivOk p inv g f) (hq : ∀ k, co q k = quo p inv g f k) : ∀ t, t ≤ KOf f g → ∀ j,
    (cvn q g (KOf f g) j - cvn q g (KOf f g - t) j + rdn p inv g (co f) (KOf f g) t j) % p = co f j
  | 0, _, j => by
    rw [Nat.sub_zero, Int.sub_self, Int.zero_add]
    exact rdn_mod D _ 0 j
  | t + 1, ht, j => by
    have ih := div_law D hq t (by omega) j
    obtain ⟨i, hi⟩ : ∃ i, KOf f g - 1 - t = i := ⟨_, rfl⟩
    have e1 : KOf f g - t = i + 1 := by omega
    have e2 : KOf f g - (t + 1) = i := by omega
    have e3 : KOf f g - 1 - i = t := by omega
    rw [e1] at ih
    rw [e2]
    have hc : co q i = rdn p inv g (co f) (KOf f g) t (i + g.length - 1) * inv % p := by rw [hq]; unfold quo; rw [if_pos (by omega), e3]
    have hs : rdn p inv g (co f) (KOf f g) (t + 1) j = (rdn p inv g (co f) (KOf f g) t j - rdn p inv g (co f) (KOf f g) t (KOf f g - 1 - t + g.length - 1) * inv * sh g (KOf f g - 1 - t) j) % p := rfl
    rw [hi] at hs
    rw [hs]
    have h5 : cvn q g (i + 1) j = cvn q g i j + co q i * sh g i j := rfl
    rw [h5] at ih
    rw [← ih]
    generalize rdn p inv g (co f) (KOf f g) t (i + g.length - 1) * inv = c at hc ⊢
    generalize rdn p inv g (co f) (KOf f g) t j = r at *
    generalize sh g i j = s
    rw [hc]
    generalize cvn q g (KOf f g) j = A
    generalize cvn q g i j = B
    rw [Int.add_emod_emod]
    have hm : c = c % p + p * (c / p) := (Int.emod_add_mul_ediv c p).symm
    have e : A - B + (r - c * s) = (A - (B + c % p * s) + r) + p * (-(c / p) * s) := by
      generalize c % p = m at hm ⊢
      generalize c / p = d at hm ⊢
      subst hm
      grind
    rw [e, Int.add_mul_emod_self_left]
end Go.Proofs.Ytmeffbooabionaa
