/- Polynomials over a prime field as lists of coefficients: the plain law. No program. -/
import Derived.Test.YtgdcmebhopjfaaaShM3
import Derived.Test.YtgdcmebhopjfaaaRows
import Derived.Laws.CopyOwn
namespace Go.Proofs.Ytgdcmebhopjfaaa

def co (f : List Int) (k : Nat) : Int := f[k]?.getD 0
/-- The length without the zeros at the end. -/
def tlen : List Int → Nat
  | [] => 0
  | x :: xs => if tlen xs = 0 then (if x = 0 then 0 else 1) else tlen xs + 1
def trim (f : List Int) : List Int := f.take (tlen f)
def Trm (f : List Int) : Prop := f.length = 0 ∨ co f (f.length - 1) ≠ 0
def InF (p : Int) (f : List Int) : Prop := ∀ x, x ∈ f → 0 ≤ x ∧ x < p

theorem co_nil (k : Nat) : co [] k = 0 := by simp [co]
theorem co_cons_zero (x : Int) (f : List Int) : co (x :: f) 0 = x := by simp [co]
theorem co_cons_succ (x : Int) (f : List Int) (k : Nat) : co (x :: f) (k + 1) = co f k := by simp [co]
theorem co_out {f : List Int} {k : Nat} (h : f.length ≤ k) : co f k = 0 := by unfold co; rw [List.getElem?_eq_none h]; rfl
theorem co_get {f : List Int} {k : Nat} {x : Int} (h : f[k]? = some x) : co f k = x := by unfold co; rw [h]; rfl
theorem co_some {f : List Int} {k : Nat} (h : k < f.length) : f[k]? = some (co f k) := by unfold co; rw [List.getElem?_eq_getElem h]; rfl
theorem tlen_le : ∀ f : List Int, tlen f ≤ f.length
  | [] => Nat.le_refl _
  | x :: xs => by
    have := tlen_le xs
    unfold tlen
    simp only [List.length_cons]
    split
    · split <;> omega
    · omega
theorem co_ge : ∀ (f : List Int) (k : Nat), tlen f ≤ k → co f k = 0
  | [], k, _ => co_nil k
  | x :: xs, 0, h => by
    rw [co_cons_zero]
    unfold tlen at h
    split at h
    · split at h
      · assumption
      · omega
    · omega
  | x :: xs, k + 1, h => by
    rw [co_cons_succ]
    refine co_ge xs k ?_
    unfold tlen at h
    split at h
    · omega
    · omega
theorem co_last : ∀ f : List Int, 0 < tlen f → co f (tlen f - 1) ≠ 0
  | [], h => by simp [tlen] at h
  | x :: xs, h => by
    unfold tlen at h ⊢
    split at h
    · rename_i h0
      split at h
      · omega
      · rename_i hx
        rw [if_pos h0, if_neg hx, Nat.sub_self, co_cons_zero]
        exact hx
    · rename_i h0
      rw [if_neg h0]
      obtain ⟨m, hm⟩ : ∃ m, tlen xs = m + 1 := ⟨tlen xs - 1, by omega⟩
      have h2 := co_last xs (by omega)
      rw [hm] at h2 ⊢
      simp only [Nat.add_sub_cancel] at h2 ⊢
      rw [co_cons_succ]
      exact h2
theorem tlen_le_of {f : List Int} {n : Nat} (h : ∀ k, n ≤ k → co f k = 0) : tlen f ≤ n := by
  rcases Nat.lt_or_ge n (tlen f) with hl | hl
  · exact absurd (h (tlen f - 1) (by omega)) (co_last f (by omega))
  · exact hl
theorem tlen_gt_of {f : List Int} {k : Nat} (h : co f k ≠ 0) : k < tlen f := by
  rcases Nat.lt_or_ge k (tlen f) with hl | hl
  · exact hl
  · exact absurd (co_ge f k hl) h
theorem co_take (f : List Int) (n k : Nat) : co (f.take n) k = if k < n then co f k else 0 := by
  unfold co
  rw [List.getElem?_take]
  split <;> rfl
theorem co_trim (f : List Int) (k : Nat) : co (trim f) k = co f k := by
  unfold trim
  rw [co_take]
  split
  · rfl
  · rename_i h
    exact (co_ge f k (by omega)).symm
theorem length_trim (f : List Int) : (trim f).length = tlen f := by
  unfold trim
  rw [List.length_take]
  exact Nat.min_eq_left (tlen_le f)
theorem trm_trim (f : List Int) : Trm (trim f) := by
  unfold Trm
  rw [length_trim, co_trim]
  rcases Nat.eq_zero_or_pos (tlen f) with h | h
  · exact .inl h
  · exact .inr (co_last f h)
theorem trm_nil : Trm [] := .inl rfl
theorem ext_co {f g : List Int} (hl : f.length = g.length) (h : ∀ k, co f k = co g k) : f = g := by
  refine List.ext_getElem hl fun k h1 h2 => ?_
  have := h k
  unfold co at this
  rw [List.getElem?_eq_getElem h1, List.getElem?_eq_getElem h2] at this
  exact this
theorem Trm.tlen {f : List Int} (h : Trm f) : tlen f = f.length := by
  have := tlen_le f
  rcases h with h | h
  · omega
  · have := tlen_gt_of h
    omega
theorem tlen_ext {f g : List Int} (h : ∀ k, co f k = co g k) : tlen f = tlen g := by
  have h1 : tlen f ≤ tlen g := tlen_le_of fun k hk => by rw [h k]; exact co_ge g k hk
  have h2 : tlen g ≤ tlen f := tlen_le_of fun k hk => by rw [← h k]; exact co_ge f k hk
  omega
theorem trm_ext {f g : List Int} (hf : Trm f) (hg : Trm g) (h : ∀ k, co f k = co g k) : f = g :=
  ext_co (by rw [← hf.tlen, ← hg.tlen, tlen_ext h]) h
theorem trim_trm {f : List Int} (h : Trm f) : trim f = f := trm_ext (trm_trim f) h (co_trim f)
theorem InF.co {p : Int} {f : List Int} (h : InF p f) (hp : 0 < p) (k : Nat) : 0 ≤ co f k ∧ co f k < p := by
  rcases Nat.lt_or_ge k f.length with hk | hk
  · exact h _ (List.mem_of_getElem? (co_some hk))
  · rw [co_out hk]; omega
theorem InF.mod {p : Int} {f : List Int} (h : InF p f) (hp : 0 < p) (k : Nat) : Go.Proofs.Ytgdcmebhopjfaaa.co f k % p = Go.Proofs.Ytgdcmebhopjfaaa.co f k := Int.emod_eq_of_lt (h.co hp k).1 (h.co hp k).2
theorem InF.of_co {p : Int} {f : List Int} (h : ∀ k, 0 ≤ Go.Proofs.Ytgdcmebhopjfaaa.co f k ∧ Go.Proofs.Ytgdcmebhopjfaaa.co f k < p) : InF p f := by
  intro x hx
  obtain ⟨k, hk⟩ := List.getElem?_of_mem hx
  have := h k
  rwa [co_get hk] at this
theorem InF.nil (p : Int) : InF p [] := fun x hx => by cases hx
/-- The trimmed list whose coefficients are c, modulo p. -/
def IsPol (p : Int) (c : Nat → Int) (f : List Int) : Prop := Trm f ∧ ∀ k, co f k = c k % p
theorem IsPol.uniq {p : Int} {c d : Nat → Int} {f g : List Int} (hf : IsPol p c f) (hg : IsPol p d g) (h : ∀ k, c k % p = d k % p) : f = g :=
  trm_ext hf.1 hg.1 fun k => by rw [hf.2, hg.2, h]
theorem IsPol.inF {p : Int} {c : Nat → Int} {f : List Int} (hp : 0 < p) (h : IsPol p c f) : InF p f :=
  InF.of_co fun k => by rw [h.2]; exact ⟨Int.emod_nonneg _ (by omega), Int.emod_lt_of_pos _ hp⟩
theorem IsPol.len {p : Int} {c : Nat → Int} {f : List Int} (h : IsPol p c f) {n : Nat} (h0 : ∀ k, n ≤ k → c k % p = 0) : f.length ≤ n := by
  rw [← h.1.tlen]
  exact tlen_le_of fun k hk => by rw [h.2]; exact h0 k hk
theorem isPol_trim {p : Int} {c : Nat → Int} {f : List Int} (h : ∀ k, co f k = c k % p) : IsPol p c (trim f) := ⟨trm_trim f, fun k => by rw [co_trim]; exact h k⟩
theorem isPol_self {p : Int} {f : List Int} (hp : 0 < p) (h : InF p f) (ht : Trm f) : IsPol p (co f) f := ⟨ht, fun k => (h.mod hp k).symm⟩

/-! ### Products -/
def sh (g : List Int) (i k : Nat) : Int := if i ≤ k then co g (k - i) else 0
theorem sh_lt (g : List Int) {i k : Nat} (h : k < i) : sh g i k = 0 := by unfold sh; rw [if_neg (by omega)]
theorem sh_ge (g : List Int) {i k : Nat} (h : i + g.length ≤ k) : sh g i k = 0 := by unfold sh; rw [if_pos (by omega)]; exact co_out (by omega)
theorem sh_add (g : List Int) (i j : Nat) : sh g i (i + j) = co g j := by unfold sh; rw [if_pos (by omega), Nat.add_sub_cancel_left]
theorem sh_bd {p : Int} {g : List Int} (hg : InF p g) (hp : 0 < p) (i k : Nat) : 0 ≤ sh g i k ∧ sh g i k < p := by
  unfold sh
  split
  · exact hg.co hp _
  · omega
def cvn (f g : List Int) : Nat → Nat → Int
  | 0, _ => 0
  | i + 1, k => cvn f g i k + co f i * sh g i k
def conv (f g : List Int) (k : Nat) : Int := cvn f g f.length k
theorem cvn_top (f g : List Int) : ∀ (i k : Nat), i + g.length ≤ k + 1 → cvn f g i k = 0
  | 0, _, _ => rfl
  | i + 1, k, h => by
    unfold cvn
    rw [cvn_top f g i k (by omega), sh_ge g (by omega)]
    simp
theorem cvn_out (f g : List Int) (k : Nat) : ∀ n : Nat, cvn f g (f.length + n) k = conv f g k
  | 0 => rfl
  | n + 1 => by
    show cvn f g (f.length + n) k + co f (f.length + n) * sh g (f.length + n) k = _
    rw [cvn_out f g k n, co_out (by omega)]
    simp
theorem conv_single (f : List Int) (c : Int) (k : Nat) : conv f [c] k = co f k * c := by
  have h : ∀ i, cvn f [c] i k = if k < i then co f k * c else 0 := by
    intro i
    induction i with
    | zero => rfl
    | succ i ih =>
      unfold cvn
      rw [ih]
      rcases Nat.lt_trichotomy k i with h | h | h
      · rw [if_pos h, if_pos (by omega), sh_lt _ h]; simp
      · subst h
        rw [if_neg (by omega), if_pos (by omega)]
        have : sh [c] k k = c := by have := sh_add [c] k 0; rw [Nat.add_zero] at this; rw [this]; rfl
        rw [this]; simp
      · rw [if_neg (by omega), if_neg (by omega), sh_ge _ (by simp; omega)]; simp
  unfold conv
  rw [h]
  split
  · rfl
  · rw [co_out (by omega)]; simp
theorem single_conv (f : List Int) (c : Int) (k : Nat) : conv [c] f k = c * co f k := by
  show cvn [c] f 1 k = _
  unfold cvn cvn
  rw [co_cons_zero]
  unfold sh
  simp

/-! ### Division -/
/-- The rest after t steps from the top; the quotient has K places. -/
def rdn (p inv : Int) (g : List Int) (f : Nat → Int) (K : Nat) : Nat → Nat → Int
  | 0 => f
  | t + 1 => fun j => (rdn p inv g f K t j - rdn p inv g f K t (K - 1 - t + g.length - 1) * inv * sh g (K - 1 - t) j) % p
def KOf (f g : List Int) : Nat := f.length + 1 - g.length
structure DivOk (p inv : Int) (g : List Int) (f : List Int) : Prop where
  hp : 1 < p
  hf : InF p f
  hg : InF p g
  hn : 0 < g.length
  hi : inv * co g (g.length - 1) % p = 1
theorem rdn_bd {p inv : Int} {g f : List Int} (D : DivOk p inv g f) (K : Nat) : ∀ t j, 0 ≤ rdn p inv g (co f) K t j ∧ rdn p inv g (co f) K t j < p
  | 0, j => D.hf.co (by have := D.hp; omega) j
  | t + 1, j => ⟨Int.emod_nonneg _ (by have := D.hp; omega), Int.emod_lt_of_pos _ (by have := D.hp; omega)⟩
theorem rdn_mod {p inv : Int} {g f : List Int} (D : DivOk p inv g f) (K : Nat) (t j : Nat) : rdn p inv g (co f) K t j % p = rdn p inv g (co f) K t j :=
  Int.emod_eq_of_lt (rdn_bd D K t j).1 (rdn_bd D K t j).2
theorem lead_out {p s inv l : Int} (h : inv * l % p = 1) : (s - s * inv * l) % p = 0 := by
  have h2 : s - s * inv * l = s * (1 - inv * l) := by rw [Int.mul_sub, Int.mul_one, Int.mul_assoc]
  rw [h2]
  have h3 : (1 - inv * l) % p = 0 := by
    have := Int.emod_add_mul_ediv (inv * l) p
    rw [h] at this
    have e : 1 - inv * l = p * (-(inv * l / p)) := by rw [Int.mul_neg]; omega
    rw [e]
    exact Int.mul_emod_right p _
  rw [Int.mul_emod, h3, Int.mul_zero, Int.zero_emod]
theorem rdn_top {p inv : Int} {g f : List Int} (D : DivOk p inv g f) : ∀ t, t ≤ KOf f g → ∀ j, KOf f g - t + g.length ≤ j + 1 → rdn p inv g (co f) (KOf f g) t j = 0
  | 0, _, j, hj => co_out (by unfold KOf at hj; omega)
  | t + 1, ht, j, hj => by
    have ih := rdn_top D t (by omega)
    have hn := D.hn
    show (rdn p inv g (co f) (KOf f g) t j - rdn p inv g (co f) (KOf f g) t (KOf f g - 1 - t + g.length - 1) * inv * sh g (KOf f g - 1 - t) j) % p = 0
    by_cases he : j = KOf f g - 1 - t + g.length - 1
    · have e2 : j = (KOf f g - 1 - t) + (g.length - 1) := by omega
      rw [← he, show sh g (KOf f g - 1 - t) j = co g (g.length - 1) by rw [e2]; exact sh_add g _ _]
      exact lead_out D.hi
    · rw [ih j (by omega), sh_ge g (by omega), Int.mul_zero]
      rfl
/-- A step at a zero changes nothing. -/
theorem rdn_skip {p inv : Int} {g f : List Int} (D : DivOk p inv g f) (K t : Nat) (h : rdn p inv g (co f) K t (K - 1 - t + g.length - 1) = 0) (j : Nat) : rdn p inv g (co f) K (t + 1) j = rdn p inv g (co f) K t j := by
  show (rdn p inv g (co f) K t j - rdn p inv g (co f) K t (K - 1 - t + g.length - 1) * inv * sh g (K - 1 - t) j) % p = _
  rw [h, Int.zero_mul, Int.zero_mul, Int.sub_zero, rdn_mod D]
/-- The rest does not change while its coefficients are zero. -/
theorem rdn_skips {p inv : Int} {g f : List Int} (D : DivOk p inv g f) {t : Nat} {L : Nat} (hL : ∀ j, L ≤ j → rdn p inv g (co f) (KOf f g) t j = 0) : ∀ m, t + m ≤ KOf f g → L + t + m ≤ KOf f g + g.length - 1 → ∀ j, rdn p inv g (co f) (KOf f g) (t + m) j = rdn p inv g (co f) (KOf f g) t j
  | 0, _, _, _ => rfl
  | m + 1, h1, h2, j => by
    have ih := rdn_skips D hL m (by omega) (by omega)
    have hn := D.hn
    rw [← ih j]
    refine rdn_skip D _ (t + m) ?_ j
    rw [ih]
    exact hL _ (by omega)
/-- The quotient's coefficients. -/
def quo (p inv : Int) (g f : List Int) (k : Nat) : Int := if k < KOf f g then rdn p inv g (co f) (KOf f g) (KOf f g - 1 - k) (k + g.length - 1) * inv % p else 0
theorem div_law {p inv : Int} {g f q : List Int} (D : DivOk p inv g f) (hq : ∀ k, co q k = quo p inv g f k) : ∀ t, t ≤ KOf f g → ∀ j,
    (cvn q g (KOf f g) j - cvn q g (KOf f g - t) j + rdn p inv g (co f) (KOf f g) t j) % p = co f j
  | 0, _, j => by
    rw [Nat.sub_zero, Int.sub_self, Int.zero_add]
    exact rdn_mod D _ 0 j
  | t + 1, ht, j => by
    have ih := div_law D hq t (by omega) j
    obtain ⟨i, hi⟩ : ∃ i, KOf f g - 1 - t = i := ⟨_, rfl⟩
    have e1 : KOf f g - t = i + 1 := by omega
    have e2 : KOf f g - (t + 1) = i := by omega
    have e3 : KOf f g - 1 - i = t := by omega
    rw [e1] at ih
    rw [e2]
    have hc : co q i = rdn p inv g (co f) (KOf f g) t (i + g.length - 1) * inv % p := by rw [hq]; unfold quo; rw [if_pos (by omega), e3]
    have hs : rdn p inv g (co f) (KOf f g) (t + 1) j = (rdn p inv g (co f) (KOf f g) t j - rdn p inv g (co f) (KOf f g) t (KOf f g - 1 - t + g.length - 1) * inv * sh g (KOf f g - 1 - t) j) % p := rfl
    rw [hi] at hs
    rw [hs]
    have h5 : cvn q g (i + 1) j = cvn q g i j + co q i * sh g i j := rfl
    rw [h5] at ih
    rw [← ih]
    generalize rdn p inv g (co f) (KOf f g) t (i + g.length - 1) * inv = c at hc ⊢
    generalize rdn p inv g (co f) (KOf f g) t j = r at *
    generalize sh g i j = s
    rw [hc]
    generalize cvn q g (KOf f g) j = A
    generalize cvn q g i j = B
    rw [Int.add_emod_emod]
    have hm : c = c % p + p * (c / p) := (Int.emod_add_mul_ediv c p).symm
    have e : A - B + (r - c * s) = (A - (B + c % p * s) + r) + p * (-(c / p) * s) := by
      generalize c % p = m at hm ⊢
      generalize c / p = d at hm ⊢
      subst hm
      grind
    rw [e, Int.add_mul_emod_self_left]
end Go.Proofs.Ytgdcmebhopjfaaa
namespace Go.Proofs.Ytgdcmebhopjfaaa
open Go.RowKit

open Classical in
noncomputable def fldE (p : Int) : Int := if 2 ≤ p ∧ p ≤ 997 ∧ IsPr p.toNat then 0 else 1
def outF (p : Int) (c : Int) : Bool := decide (c < 0) || decide (p ≤ c)
noncomputable def polE (p : Int) (f : List Int) : Int :=
  if fldE p = 1 then 1 else if 40 < f.length then 2 else if f.any (outF p) = true then 1 else if 0 < f.length ∧ co f (f.length - 1) = 0 then 3 else 0
theorem fldE_zero {p : Int} (h : 2 ≤ p) (h2 : p ≤ 997) (h3 : IsPr p.toNat) : fldE p = 0 := by unfold fldE; rw [if_pos ⟨h, h2, h3⟩]
theorem fldE_one {p : Int} (h : ¬ (2 ≤ p ∧ p ≤ 997 ∧ IsPr p.toNat)) : fldE p = 1 := by unfold fldE; rw [if_neg h]
theorem fldE_cases (p : Int) : (fldE p = 0 ∧ 2 ≤ p ∧ p ≤ 997 ∧ IsPr p.toNat) ∨ fldE p = 1 := by
  unfold fldE
  split
  · exact .inl ⟨rfl, ‹_›⟩
  · exact .inr rfl
set_option maxRecDepth 20000 in
set_option maxHeartbeats 1000000 in
theorem poly_Field (p : Int) (w : World) (_h : (Lit.int .i64 p).wf = true) :
    Calls Try.prog 76 #[.int .i64 p] w fun e w' => e = .returned (.int .i64 (fldE p)) ∧ w' = w := by
  by_cases hr : 0 ≤ p ∧ p ≤ 1000000
  · obtain ⟨n, rfl⟩ : ∃ n : Nat, p = n := ⟨p.toNat, by omega⟩
    have hn : n ≤ 1000000 := by omega
    cases hb : prB n with
    | false =>
      have hE : Hid (fldE (n : Int) = 1) := fldE_one (by rw [Int.toNat_natCast]; exact fun h => by rw [prB_true h.2.2] at hb; cases hb)
      have HB := Lib.hid hb
      clear hb hr
      go_enter Try.func76, Try.ntmps76
      go_wp2_with (go_at_call 142; refine (prime_Is n _ hn).mono ?_; rw [HB.out]; rintro e w' ⟨rfl, rfl⟩)
      go_ret
      exact ⟨by rw [hE.out]; rfl, rfl⟩
    | true =>
      have HB := Lib.hid hb
      have hpr := prB_iff.1 hb
      by_cases h9 : n ≤ 997
      · have hE : Hid (fldE (n : Int) = 0) := fldE_zero (by have := hpr.1; omega) (by omega) (by rw [Int.toNat_natCast]; exact hpr)
        have d1 : decide ((997 : Int) < n) = false := by simp; omega
        clear hb hr hpr
        go_enter Try.func76, Try.ntmps76
        go_wp2_with (go_at_call 142; refine (prime_Is n _ hn).mono ?_; rw [HB.out]; rintro e w' ⟨rfl, rfl⟩)
        go_ret
        exact ⟨by rw [hE.out]; rfl, rfl⟩
      · have hE : Hid (fldE (n : Int) = 1) := fldE_one (by omega)
        have d1 : decide ((997 : Int) < n) = true := by simp; omega
        clear hb hr hpr
        go_enter Try.func76, Try.ntmps76
        go_wp2_with (go_at_call 142; refine (prime_Is n _ hn).mono ?_; rw [HB.out]; rintro e w' ⟨rfl, rfl⟩)
        go_ret
        exact ⟨by rw [hE.out]; rfl, rfl⟩
  · have hE : Hid (fldE p = 1) := fldE_one (by omega)
    have hp : p < 0 ∨ 1000000 < p := by omega
    clear hr
    go_enter Try.func76, Try.ntmps76
    go_wp2_with (go_at_call 142; refine (prime_Is_bad p _ hp).mono ?_; rintro e w' ⟨rfl, rfl⟩)
    go_ret
    exact ⟨by rw [hE.out]; rfl, rfl⟩
theorem poly_out (x p : Int) (b : Nat) (w : World) (hc : w.cell? ⟨b, 0, none⟩ = some (.int .i64 p)) :
    Calls Try.prog 149 #[.int .i64 x, .pointer (some ⟨b, 0, none⟩)] w fun e w' => e = .returned (.bool (outF p x)) ∧ w' = w := by
  go_enter Try.func149, Try.ntmps149
  unfold outF
  cases h : decide (x < 0) with
  | true =>
    go_wp2_with fail
    go_ret
    exact ⟨by simp, rfl⟩
  | false =>
    go_wp2_with fail
    go_ret
    exact ⟨by simp, rfl⟩
set_option maxRecDepth 20000 in
set_option maxHeartbeats 1000000 in
theorem poly_Check (p : Int) (zs : List Int) (ao : Option Addr) (n cap : Nat) (w : World) (hp : (Lit.int .i64 p).wf = true) (hl : zs.length = n) (h63 : n ≤ 9223372036854775807) (hR : Hid (Reads w ao (zs.map (Value.int .i64)))) :
    Calls Try.prog 86 #[.int .i64 p, .slice ao n cap] w fun e w' => e = .returned (.int .i64 (polE p zs)) ∧ Below w.heap.size w w' := by
  have HL := Lib.hid hl
  have hb := Lib.hid ((Below.refl w.heap.size w).alloc (Nat.le_refl _) (.cells #[.int .i64 p] 3))
  have HR := Lib.hid (hR.out.alloc (.cells #[.int .i64 p] 3))
  have HP := Lib.hid hp
  have hc0 : Hid ((w.alloc (.cells #[.int .i64 p] 3)).cell? ⟨w.heap.size, 0, none⟩ = some (.int .i64 p)) := by show _ = _; simp [World.cell?_alloc_new]
  clear hl hp
  rcases fldE_cases p with ⟨hf, p1, p2, p3⟩ | hf
  · have HF := Lib.hid hf
    clear p3
    by_cases h40 : 40 < n
    · have hE : Hid (polE p zs = 2) := by show _ = _; unfold polE; rw [HF.out, if_neg (by omega), if_pos (by rw [HL.out]; exact h40)]
      have d1 : decide ((40 : Int) < n) = true := by simp; omega
      clear hf h40
      go_enter Try.func86, Try.ntmps86
      go_wp2_with (go_at_call 76; refine (poly_Field p _ HP.out).mono ?_; rw [HF.out]; rintro e w' ⟨rfl, rfl⟩)
      go_ret
      exact ⟨by rw [hE.out]; rfl, hb.out⟩
    · have d1 : decide ((40 : Int) < n) = false := by simp; omega
      have hany : ∃ b, zs.any (outF p) = b := ⟨_, rfl⟩
      obtain ⟨b, hany⟩ := hany
      have HA := Lib.hid hany
      have hCF : Hid (Calls Try.prog 77 #[.slice ao zs.length cap, .func (.func 149) #[] #[.pointer (some ⟨w.heap.size, 0, none⟩)]] (w.alloc (.cells #[.int .i64 p] 3)) fun e w' => e = .returned (.bool (zs.any (outF p))) ∧ ∃ n, w' = (w.alloc (.cells #[.int .i64 p] 3)).drewN n) := by
        refine containsFunc_cap 149 (.pointer (some ⟨w.heap.size, 0, none⟩)) (fun x W => by go_simp) (outF p) zs ao cap _ (by rw [HL.out]; exact h63) HR ?_
        intro x hx m
        refine (poly_out x p w.heap.size ((w.alloc (.cells #[.int .i64 p] 3)).drewN m) (show World.cell? _ _ = _ from hc0.out)).mono ?_
        rintro e w' ⟨rfl, rfl⟩
        exact ⟨rfl, 0, rfl⟩
      rw [HA.out, HL.out] at hCF
      cases b with
      | true =>
        have hE : Hid (polE p zs = 1) := by show _ = _; unfold polE; rw [HF.out, if_neg (by omega), if_neg (by rw [HL.out]; exact h40), if_pos HA.out]
        clear hf h40 hany
        go_enter Try.func86, Try.ntmps86
        go_wp2_with (first | (go_at_call 76; refine (poly_Field p _ HP.out).mono ?_; rw [HF.out]; rintro e w' ⟨rfl, rfl⟩) | (go_at_call 77; refine hCF.out.mono ?_; rintro e w' ⟨rfl, m, rfl⟩))
        go_ret
        exact ⟨by rw [hE.out]; rfl, below_drewN hb.out m⟩
      | false =>
        by_cases h0 : 0 < n
        · have d2 : decide ((0 : Int) < n) = true := by simp; omega
          obtain ⟨x, hx⟩ : ∃ x, co zs (n - 1) = x := ⟨_, rfl⟩
          obtain ⟨b, o, rfl, hcx⟩ := HR.out (n - 1) (.int .i64 x) (by rw [List.getElem?_map, co_some (by rw [HL.out]; omega), hx]; rfl)
          obtain ⟨j, hj⟩ : ∃ j, n - 1 = j := ⟨_, rfl⟩
          have hj2 : (n : Int) - 1 = j := by omega
          have hjl : j < n := by omega
          have hw1 : IntKind.i64.wrap ((n : Int) - 1) = j := by rw [hj2]; exact IntWalk.i64_in _ (by omega)
          have j0 : (0 : Int) ≤ j := by omega
          have j1 : (j : Int) < n := by omega
          rw [hj] at hcx
          have HX : Hid (co zs (zs.length - 1) = x) := by show _ = _; rw [HL.out]; exact hx
          cases hz : (x == 0) with
          | true =>
            have hE : Hid (polE p zs = 3) := by show _ = _; unfold polE; rw [HF.out, if_neg (by omega), if_neg (by rw [HL.out]; exact h40), if_neg (by rw [HA.out]; simp), if_pos ⟨by rw [HL.out]; exact h0, by rw [HX.out]; simpa using hz⟩]
            clear hf h40 hany hj hj2 hx
            go_enter Try.func86, Try.ntmps86
            go_wp2_with (first | (go_at_call 76; refine (poly_Field p _ HP.out).mono ?_; rw [HF.out]; rintro e w' ⟨rfl, rfl⟩) | (go_at_call 77; refine hCF.out.mono ?_; rintro e w' ⟨rfl, m, rfl⟩))
            go_ret
            exact ⟨by rw [hE.out]; rfl, below_drewN hb.out m⟩
          | false =>
            have hE : Hid (polE p zs = 0) := by show _ = _; unfold polE; rw [HF.out, if_neg (by omega), if_neg (by rw [HL.out]; exact h40), if_neg (by rw [HA.out]; simp), if_neg (by rw [HX.out]; intro h; simp [h.2] at hz)]
            clear hf h40 hany hj hj2 hx
            go_enter Try.func86, Try.ntmps86
            go_wp2_with (first | (go_at_call 76; refine (poly_Field p _ HP.out).mono ?_; rw [HF.out]; rintro e w' ⟨rfl, rfl⟩) | (go_at_call 77; refine hCF.out.mono ?_; rintro e w' ⟨rfl, m, rfl⟩))
            go_ret
            exact ⟨by rw [hE.out]; rfl, below_drewN hb.out m⟩
        · have hE : Hid (polE p zs = 0) := by show _ = _; unfold polE; rw [HF.out, if_neg (by omega), if_neg (by rw [HL.out]; exact h40), if_neg (by rw [HA.out]; simp), if_neg (by rw [HL.out]; omega)]
          have d2 : decide ((0 : Int) < n) = false := by simp; omega
          clear hf h40 hany
          go_enter Try.func86, Try.ntmps86
          go_wp2_with (first | (go_at_call 76; refine (poly_Field p _ HP.out).mono ?_; rw [HF.out]; rintro e w' ⟨rfl, rfl⟩) | (go_at_call 77; refine hCF.out.mono ?_; rintro e w' ⟨rfl, m, rfl⟩))
          go_ret
          exact ⟨by rw [hE.out]; rfl, below_drewN hb.out m⟩
  · have HF := Lib.hid hf
    have hE : Hid (polE p zs = 1) := by show _ = _; unfold polE; rw [HF.out, if_pos rfl]
    clear hf
    go_enter Try.func86, Try.ntmps86
    go_wp2_with (go_at_call 76; refine (poly_Field p _ HP.out).mono ?_; rw [HF.out]; rintro e w' ⟨rfl, rfl⟩)
    go_ret
    exact ⟨by rw [hE.out]; rfl, hb.out⟩
end Go.Proofs.Ytgdcmebhopjfaaa
namespace Go.Proofs.Ytgdcmebhopjfaaa
open Go.RowKit

theorem clip_int (ao : Option Addr) (n cap : Nat) (w : World) (h63 : cap ≤ 9223372036854775807) (hc : n ≤ cap) :
    Calls Try.prog 94 #[.slice ao n cap] w fun e w' => e = .returned (.slice ao n n) ∧ w' = w := by
  go_enter Try.func94, Try.ntmps94
  go_wp2_with fail
  go_ret
  exact ⟨rfl, rfl⟩
end Go.Proofs.Ytgdcmebhopjfaaa
namespace Go.Proofs.Ytgdcmebhopjfaaa
open Go.RowKit

theorem intRow : ElemRow Try.prog 3 (.int .i64 0) 1 8 := elemRow_of (by kernel_rfl) rfl (by omega)
def iV (s : Nat → Int) (j : Nat) : Value := .int .i64 (s j)
theorem map_iV (f : List Int) : f.map (Value.int .i64) = rowF f.length (iV (co f)) := by
  apply List.ext_getElem?
  intro j
  by_cases h : j < f.length
  · rw [rowF_get _ h, List.getElem?_map, co_some h]; rfl
  · rw [List.getElem?_eq_none (by simp; omega), List.getElem?_eq_none (by rw [rowF_length]; omega)]
def mkL (n : Nat) (s : Nat → Int) : List Int := (List.range n).map s
theorem mkL_length (n : Nat) (s : Nat → Int) : (mkL n s).length = n := by simp [mkL]
theorem co_mkL (n : Nat) (s : Nat → Int) (k : Nat) : co (mkL n s) k = if k < n then s k else 0 := by
  unfold co mkL
  by_cases h : k < n
  · rw [if_pos h]; simp [h]
  · rw [if_neg h, List.getElem?_eq_none (by simp; omega)]; rfl
theorem map_mkL (n : Nat) (s : Nat → Int) : (mkL n s).map (Value.int .i64) = rowF n (iV s) := by
  unfold mkL rowF
  rw [List.map_map]; rfl
/-- What is handed back where a list is. -/
def ListPost (base : Nat) (zs : List Int) (w : World) (e : Ending) (w' : World) : Prop :=
  ∃ v, e = .returned v ∧ w'.ownsRow base 3 1 v zs.length (zs.map (Value.int .i64)) ∧ Below base w w'
set_option maxHeartbeats 1000000 in
set_option maxRecDepth 20000 in
theorem clone_int (zs : List Int) (n : Nat) (ao : Option Addr) (cap base : Nat) (w : World) (hn : n ≤ 1000000000) (hl : zs.length = n) (hnone : ao = none → n = 0 ∧ cap = 0) (hR : Hid (Reads w ao (zs.map (Value.int .i64)))) (hb : base ≤ w.heap.size) :
    Calls Try.prog 91 #[.slice ao n cap] w (ListPost base zs w) := by
  have HLn := Lib.hid hl
  have HL : Hid ((zs.map (Value.int .i64)).length = n * 1) := by show _ = _; rw [List.length_map]; omega
  have h1 : Hid (∀ u ∈ zs.map (Value.int .i64), u.oneCell' = true) := ints_one .i64 zs
  have HN := Lib.hid hnone
  cases ao with
  | none =>
    obtain ⟨rfl, rfl⟩ := hnone rfl
    have hx : Hid (zs = []) := List.eq_nil_of_length_eq_zero hl
    have heq := Lib.run_eql_slice_nil (P := Try.prog) w 22 3 none 0 0 0 0 Try.underlying22
    clear hl hnone
    go_enter Try.func91, Try.ntmps91
    go_wp2_with fail
    go_ret
    refine ⟨_, rfl, ?_, Below.refl _ _⟩
    rw [hx.out]; exact World.ownsRow_nil _ _ _ _
  | some a =>
    have heq := Lib.run_eql_slice_nil (P := Try.prog) w 22 3 (some a) n cap 0 0 Try.underlying22
    clear hl hnone
    have hown : Hid ((w.alloc (.cells #[] 3)).ownsRow base 3 1 (.slice (some ⟨w.heap.size, 0, none⟩) 0 0) 0 []) := own_lit w base 3 [] hb (by unfold maxLen; simp)
    have hR2 : Hid (Reads (w.alloc (.cells #[] 3)) (some a) (zs.map (Value.int .i64))) := hR.out.alloc _
    have hbel : Hid (Below base w (w.alloc (.cells #[] 3))) := (Below.refl _ _).alloc hb _
    go_enter Try.func91, Try.ntmps91
    go_wp2_with (at_builtin; go_must (refine app_all rfl (.tmp 5) (.tmp 6) _ rfl base 3 _ 1 8 Try.underlying22 intRow _ 0 [] (by rfl) hown.out (some a) n cap (zs.map (Value.int .i64)) (by rfl) (fun h => by cases h) HL.out hR2.out h1.out (by unfold maxLen; omega) (by omega) (Nat.le_trans hb hbel.out.size) ?_); intro v2 w2 hown2 hgr2 hb2)
    go_ret
    refine ⟨v2, rfl, ?_, hbel.out.trans hb2⟩
    rw [HLn.out]
    simpa using hown2
theorem reads_take {w : World} {ao : Option Addr} {zs : List Int} (h : Reads w ao (zs.map (Value.int .i64))) (m : Nat) : Reads w ao ((zs.take m).map (Value.int .i64)) := by
  intro j u hu
  rw [List.getElem?_map, List.getElem?_take] at hu
  split at hu
  · exact h j u (by rw [List.getElem?_map]; exact hu)
  · simp at hu
set_option maxRecDepth 20000 in
set_option maxHeartbeats 1000000 in
theorem poly_Trim (zs : List Int) (n : Nat) (ao : Option Addr) (cap base : Nat) (w : World) (hn : n ≤ 1000000000) (hl : zs.length = n) (hc : n ≤ cap) (hc2 : cap ≤ 9223372036854775807) (hnone : ao = none → n = 0 ∧ cap = 0) (hR : Hid (Reads w ao (zs.map (Value.int .i64)))) (hb : base ≤ w.heap.size) :
    Calls Try.prog 79 #[.slice ao n cap] w (ListPost base (trim zs) w) := by
  have HL := Lib.hid hl
  have HN := Lib.hid hnone
  have HB := Lib.hid hb
  clear hl hnone hb
  go_enter Try.func79, Try.ntmps79
  go_wp2_with fail
  go_loop [0] (fun v => ∃ m : Nat, v = .slice ao m cap ∧ m ≤ n ∧ Hid (tlen zs ≤ m)) (fun v => match v with | .slice _ m _ => m | _ => 0)
  case atStart => exact ⟨n, rfl, Nat.le_refl _, by show _ ≤ _; rw [← HL.out]; exact tlen_le zs⟩
  case round =>
    obtain ⟨m, rfl, hm, ht⟩ := hrel
    have hfinal : (m = 0 ∨ co zs (m - 1) ≠ 0) → Hid (m = tlen zs) := by
      intro h
      show _ = _
      have := ht.out
      rcases h with h | h
      · omega
      · have := tlen_gt_of h; omega
    by_cases h0 : 0 < m
    · have d1 : decide ((0 : Int) < m) = true := by simp; omega
      obtain ⟨j, hj⟩ : ∃ j, m - 1 = j := ⟨_, rfl⟩
      obtain ⟨x, hx⟩ : ∃ x, co zs j = x := ⟨_, rfl⟩
      obtain ⟨b, o, rfl, hcx⟩ := hR.out j (.int .i64 x) (by rw [List.getElem?_map, co_some (by rw [HL.out]; omega), hx]; rfl)
      have hw1 : IntKind.i64.wrap ((m : Int) - 1) = j := by rw [show (m : Int) - 1 = j by omega]; exact IntWalk.i64_in _ (by omega)
      have j0 : (0 : Int) ≤ j := by omega
      have j1 : (j : Int) < m := by omega
      have j2 : (j : Int) ≤ cap := by omega
      cases hz : (x == 0) with
      | true =>
        have ht2 : Hid (tlen zs ≤ j) := by
          refine tlen_le_of fun k hk => ?_
          by_cases he : k = j
          · subst he; rw [hx]; simpa using hz
          · exact co_ge zs k (by have := ht.out; omega)
        have hjm : Hid (j < m) := by show _ < _; omega
        clear hfinal hx
        go_wp2_with fail
        go_round
        case rel => exact ⟨j, by simp, by omega, ht2⟩
        case measure => have := hjm.out; simpa using this
      | false =>
        have hfin := hfinal (.inr (by rw [hj, hx]; simpa using hz))
        have hR2 : Hid (Reads w (some ⟨b, o, none⟩) ((trim zs).map (Value.int .i64))) := reads_take hR.out _
        have hl2 : (trim zs).length = m := by rw [length_trim, hfin.out]
        clear hfinal hx hj
        go_wp2_with (go_at_call 91; refine (clone_int (trim zs) m (some ⟨b, o, none⟩) cap base _ (by omega) hl2 (fun h => by cases h) hR2 HB.out).mono ?_; rintro e w' ⟨v, rfl, hv⟩)
        go_ret
        exact ⟨v, rfl, hv⟩
    · have d1 : decide ((0 : Int) < m) = false := by simp; omega
      have hfin := hfinal (.inl (by omega))
      have hR2 : Hid (Reads w ao ((trim zs).map (Value.int .i64))) := reads_take hR.out _
      have hl2 : (trim zs).length = m := by rw [length_trim, hfin.out]
      have HN2 : ao = none → m = 0 ∧ cap = 0 := fun h => ⟨by omega, (HN.out h).2⟩
      clear hfinal
      go_wp2_with (go_at_call 91; refine (clone_int (trim zs) m ao cap base _ (by omega) hl2 HN2 hR2 HB.out).mono ?_; rintro e w' ⟨v, rfl, hv⟩)
      go_ret
      exact ⟨v, rfl, hv⟩
end Go.Proofs.Ytgdcmebhopjfaaa
namespace Go.Proofs.Ytgdcmebhopjfaaa
open Go.RowKit

def PolPost (base : Nat) (p : Int) (c : Nat → Int) (w : World) (e : Ending) (w' : World) : Prop := ∃ h, IsPol p c h ∧ ListPost base h w e w'
theorem sh_nil (i k : Nat) : sh [] i k = 0 := by
  unfold sh
  split
  · exact co_nil _
  · rfl
theorem conv_nil_l (g : List Int) (k : Nat) : conv [] g k = 0 := rfl
theorem conv_nil_r (f : List Int) (k : Nat) : conv f [] k = 0 := by
  have h : ∀ i, cvn f [] i k = 0 := by
    intro i
    induction i with
    | zero => rfl
    | succ i ih => unfold cvn; rw [ih, sh_nil, Int.mul_zero]; rfl
  exact h _
theorem isPol_nil {p : Int} {c : Nat → Int} (h : ∀ k, c k = 0) : IsPol p c [] := ⟨trm_nil, fun k => by rw [co_nil, h, Int.zero_emod]⟩
/-- The out row while f's place i is taken and g's places below j. -/
def prodS (p : Int) (f g : List Int) (i j k : Nat) : Int := (cvn f g i k + co f i * (if k < i + j then sh g i k else 0)) % p
theorem prodS_zero (p : Int) (f g : List Int) (i k : Nat) : prodS p f g i 0 k = cvn f g i k % p := by
  unfold prodS
  by_cases h : k < i
  · rw [if_pos (by omega), sh_lt g h, Int.mul_zero, Int.add_zero]
  · rw [if_neg (by omega), Int.mul_zero, Int.add_zero]
theorem prodS_full (p : Int) (f g : List Int) (i k : Nat) : prodS p f g i g.length k = cvn f g (i + 1) k % p := by
  unfold prodS
  show _ = (cvn f g i k + co f i * sh g i k) % p
  by_cases h : k < i + g.length
  · rw [if_pos h]
  · rw [if_neg h, sh_ge g (by omega)]
theorem prodS_step (p : Int) (f g : List Int) (i j k : Nat) : prodS p f g i (j + 1) k = if k = i + j then (prodS p f g i j k + co f i * co g j) % p else prodS p f g i j k := by
  unfold prodS
  by_cases h : k = i + j
  · subst h
    rw [if_pos rfl, if_pos (by omega), if_neg (by omega), sh_add, Int.mul_zero, Int.add_zero, Int.emod_add_emod]
  · rw [if_neg h]
    by_cases h2 : k < i + j
    · rw [if_pos h2, if_pos (by omega)]
    · rw [if_neg h2, if_neg (by omega)]
theorem pol_bd {p a : Int} (hp : 1 < p) (hp2 : p ≤ 997) (x : Int) (ha : a = x % p) : 0 ≤ a ∧ a ≤ 996 := by
  subst ha
  have h1 := Int.emod_nonneg x (show p ≠ 0 by omega)
  have h2 := Int.emod_lt_of_pos x (show 0 < p by omega)
  omega
theorem mul_bd {a b M : Int} (ha : 0 ≤ a) (ha2 : a ≤ M) (hb : 0 ≤ b) (hb2 : b ≤ M) : 0 ≤ a * b ∧ a * b ≤ M * M := ⟨Int.mul_nonneg ha hb, Int.mul_le_mul ha2 hb2 hb (by omega)⟩
set_option maxRecDepth 100000 in
set_option maxHeartbeats 2000000 in
theorem poly_Product (p : Int) (f g : List Int) (nf ng : Nat) (ao bo : Option Addr) (ca cb : Nat) (w : World) (hp : 2 ≤ p) (hp2 : p ≤ 997) (hlf : f.length = nf) (hlg : g.length = ng) (hnf : nf ≤ 1000000) (hng : ng ≤ 1000000)
    (hf : Hid (InF p f)) (hg : Hid (InF p g)) (hF : Hid (Reads w ao (f.map (Value.int .i64)))) (hG : Hid (Reads w bo (g.map (Value.int .i64)))) :
    Calls Try.prog 82 #[.int .i64 p, .slice ao nf ca, .slice bo ng cb] w (PolPost w.heap.size p (conv f g) w) := by
  have HLF := Lib.hid hlf
  have HLG := Lib.hid hlg
  by_cases h0 : nf = 0 ∨ ng = 0
  · have hE : Hid (PolPost w.heap.size p (conv f g) w (.returned (.slice none 0 0)) w) := by
      refine ⟨[], isPol_nil fun k => ?_, _, rfl, World.ownsRow_nil _ _ _ _, Below.refl _ _⟩
      rcases h0 with h | h
      · rw [List.eq_nil_of_length_eq_zero (hlf.trans h)]; rfl
      · rw [List.eq_nil_of_length_eq_zero (hlg.trans h)]; exact conv_nil_r f k
    by_cases h1 : nf = 0
    · have d1 : ((nf : Int) == 0) = true := by simp [h1]
      clear hlf hlg h0 h1
      go_enter Try.func82, Try.ntmps82
      go_wp2_with fail
      go_ret
      exact hE.out
    · have d1 : ((nf : Int) == 0) = false := by simp [h1]
      have d2 : ((ng : Int) == 0) = true := by simp; omega
      clear hlf hlg h0 h1
      go_enter Try.func82, Try.ntmps82
      go_wp2_with fail
      go_ret
      exact hE.out
  · have d1 : ((nf : Int) == 0) = false := by simp; omega
    have d2 : ((ng : Int) == 0) = false := by simp; omega
    obtain ⟨n, hn⟩ : ∃ n, nf + ng - 1 = n := ⟨_, rfl⟩
    have w1 : IntKind.i64.wrap ((nf : Int) + ng) = (nf : Int) + ng := IntWalk.i64_in _ (by omega)
    have w2 : IntKind.i64.wrap ((nf : Int) + ng - 1) = (n : Int) := by rw [show (nf : Int) + ng - 1 = n by omega]; exact IntWalk.i64_in _ (by omega)
    have hnn : Hid (nf + ng = n + 1) := by show _ = _; omega
    have hnb : n ≤ 2000000 := by omega
    clear hlf hlg h0 hn
    go_enter Try.func82, Try.ntmps82
    go_wp2_with (at_make; refine make_own rfl _ _ 22 rfl w.heap.size 3 _ 8 Try.underlying22 intRow rfl _ _ _ _ n (by rfl) (by rfl) rfl rfl (by omega) (by unfold maxLen; omega) (Nat.le_refl _) ?_; intro w1 hown hg1)
    obtain ⟨G, hgs⟩ : ∃ g, w.heap.size = g := ⟨_, rfl⟩
    have hb1 : Hid (Below w.heap.size w w1) := below_of_grown hg1 (Nat.le_refl _) (by intro k hk; cases hk)
    have hO0 := hown.congr (f' := iV (prodS p f g 0 0)) fun j _ => by
      unfold iV
      rw [prodS_zero]
      show _ = Value.int .i64 (0 % p)
      rw [Int.zero_emod]
    have hO1 : Hid (Own w1 w.heap.size 3 G n n (iV (prodS p f g 0 0))) := by
      have e : Own w1 w.heap.size 3 w.heap.size n n (iV (prodS p f g 0 0)) = Own w1 w.heap.size 3 G n n (iV (prodS p f g 0 0)) := by rw [hgs]
      show Own _ _ _ _ _ _ _
      rw [← e]; exact hO0
    rw [hgs]
    clear hown hg1 hO0 hgs
    go_loopw [29] (fun vx wr => ∃ i : Nat, vx = .int .i64 i ∧ i ≤ nf ∧ Hid (Own wr w.heap.size 3 G n n (iV (prodS p f g i 0))) ∧ Hid (Below w.heap.size w wr)) (fun vx _ => nf - (intOf vx).toNat)
    case atStart => exact ⟨0, rfl, by omega, hO1, hb1⟩
    case round =>
      obtain ⟨i, rfl, hin, hO, hb⟩ := hrel
      by_cases hi1 : i < nf
      · obtain ⟨a, ha⟩ : ∃ a, co f i = a := ⟨_, rfl⟩
        obtain ⟨b1, o1, rfl, c1⟩ := (hF.out.below hb.out) i (.int .i64 a) (by rw [List.getElem?_map, co_some (by rw [HLF.out]; exact hi1), ha]; rfl)
        have HA := Lib.hid ha
        have ha1 := hf.out.co (by omega) i
        rw [ha] at ha1
        clear ha
        go_wp2_with fail
        go_loopw [36] (fun vy wi => ∃ j : Nat, vy = .int .i64 j ∧ j ≤ ng ∧ Hid (Own wi w.heap.size 3 G n n (iV (prodS p f g i j))) ∧ Hid (Below w.heap.size w wi)) (fun vy _ => ng - (intOf vy).toNat)
        case atStart => exact ⟨0, rfl, by omega, hO, hb⟩
        case round =>
          obtain ⟨j, rfl, hjn, hO2, hb2⟩ := hrel
          by_cases hj1 : j < ng
          · obtain ⟨b, hbj⟩ : ∃ b, co g j = b := ⟨_, rfl⟩
            obtain ⟨b2, o2, rfl, c2⟩ := (hG.out.below hb2.out) j (.int .i64 b) (by rw [List.getElem?_map, co_some (by rw [HLG.out]; exact hj1), hbj]; rfl)
            have hb1' := hg.out.co (by omega) j
            rw [hbj] at hb1'
            obtain ⟨m, hm⟩ : ∃ m, i + j = m := ⟨_, rfl⟩
            have hmi : (i : Int) + j = m := by omega
            have hmn : m < n := by have := hnn.out; omega
            have m0 : (0 : Int) ≤ m := by omega
            have m1 : (m : Int) < n := by omega
            have wm : IntKind.i64.wrap (m : Int) = m := IntWalk.i64_in _ (by omega)
            obtain ⟨s, hs⟩ : ∃ s, prodS p f g i j m = s := ⟨_, rfl⟩
            have hsb := pol_bd (by omega) hp2 _ hs.symm
            have c3 := hO2.out.cell hmn
            have f3 := hO2.out.frozen m
            unfold iV at c3
            rw [hs] at c3
            have hx := mul_bd ha1.1 (show a ≤ 996 by omega) hb1'.1 (show b ≤ 996 by omega)
            obtain ⟨x, hxe⟩ : ∃ x, a * b = x := ⟨_, rfl⟩
            rw [hxe] at hx
            have wx : IntKind.i64.wrap x = x := IntWalk.i64_in _ (by omega)
            have ws : IntKind.i64.wrap (s + x) = s + x := IntWalk.i64_in _ (by omega)
            obtain ⟨r, hr⟩ : ∃ r, (s + x) % p = r := ⟨_, rfl⟩
            have hrt : Int.tmod (s + x) p = r := by rw [Int.tmod_eq_emod_of_nonneg (by omega)]; exact hr
            have hp0 : ¬ p = 0 := by omega
            have wr1 : IntKind.i64.wrap r = r := IntWalk.i64_in _ (by have h1 := Int.emod_nonneg (s + x) hp0; have h2 := Int.emod_lt_of_pos (s + x) (show 0 < p by omega); omega)
            have st := hO2.out.store m (.int .i64 r)
            have hO3 := Lib.hid (st.1.congr (f' := iV (prodS p f g i (j + 1))) fun k _ => by
              unfold iV
              rw [prodS_step, hm]
              by_cases hk : k = m
              · subst hk; rw [if_pos rfl, if_pos rfl, hs, HA.out, hbj, hxe, hr]
              · rw [if_neg hk, if_neg hk])
            have hb3 := Lib.hid (hO2.out.belowStore hb2.out (Nat.le_refl _) m (.int .i64 r))
            clear st hs hbj hm
            go_wp2_with fail
            go_roundw
            case rel => exact ⟨j + 1, by go_num, by omega, hO3, hb3⟩
            case measure => simp [intOf]; omega
          · have hO3 := Lib.hid (hO2.out.congr (f' := iV (prodS p f g (i + 1) 0)) fun k _ => by
              have hjn2 : j = g.length := by rw [HLG.out]; omega
              unfold iV
              rw [hjn2, prodS_full, prodS_zero])
            go_wp2_with fail
            go_roundw
            case rel => exact ⟨i + 1, by go_num, by omega, hO3, hb2⟩
            case measure => simp [intOf]; omega
      · have hin2 : i = f.length := by rw [HLF.out]; omega
        have hO3 := hO.out.congr (f' := iV (fun k => conv f g k % p)) fun k _ => by
          unfold iV
          rw [prodS_zero, hin2]; rfl
        have hR : Hid (Reads wr (some ⟨G, 0, none⟩) ((mkL n fun k => conv f g k % p).map (Value.int .i64))) := by
          show Reads _ _ _
          rw [map_mkL]; exact hO3.reads
        have hpol : Hid (IsPol p (conv f g) (trim (mkL n fun k => conv f g k % p))) := isPol_trim fun k => by
          rw [co_mkL]
          split
          · rfl
          · rw [show conv f g k = 0 from cvn_top f g _ _ (by rw [HLF.out, HLG.out]; have := hnn.out; omega), Int.zero_emod]
        clear hO3
        go_wp2_with (go_at_call 79; refine (poly_Trim (mkL n fun k => conv f g k % p) n (some ⟨G, 0, none⟩) n w.heap.size _ (by omega) (mkL_length _ _) (Nat.le_refl _) (by omega) (fun h => by cases h) hR hb.out.size).mono ?_; rintro e w' ⟨v, rfl, hv1, hv2⟩)
        go_ret
        exact ⟨_, hpol.out, v, rfl, hv1, hb.out.trans hv2⟩
end Go.Proofs.Ytgdcmebhopjfaaa
namespace Go.Proofs.Ytgdcmebhopjfaaa
open Go.RowKit

structure PolOk (p : Int) (f : List Int) : Prop where
  p1 : 2 ≤ p
  p2 : p ≤ 997
  pr : IsPr p.toNat
  len : f.length ≤ 40
  inF : InF p f
  trm : Trm f
theorem polOk_of {p : Int} {f : List Int} (h : polE p f = 0) : PolOk p f := by
  unfold polE at h
  rcases fldE_cases p with ⟨h1, h2, h3, h4⟩ | h1
  · rw [h1, if_neg (by omega)] at h
    split at h
    · omega
    · rename_i hl
      split at h
      · omega
      · rename_i ha
        split at h
        · omega
        · rename_i ht
          refine ⟨h2, h3, h4, by omega, fun x hx => ?_, ?_⟩
          · rw [Bool.not_eq_true, List.any_eq_false] at ha
            have := ha x hx
            unfold outF at this
            simp at this
            omega
          · rcases Nat.eq_zero_or_pos f.length with h0 | h0
            · exact .inl h0
            · exact .inr fun hc => ht ⟨h0, hc⟩
  · rw [h1, if_pos rfl] at h; omega
noncomputable def chkE (p : Int) (f g : List Int) : Int := if polE p f = 0 then polE p g else polE p f
theorem chkE_zero {p : Int} {f g : List Int} (hf : polE p f = 0) (hg : polE p g = 0) : chkE p f g = 0 := by unfold chkE; rw [if_pos hf, hg]
theorem chkE_ok {p : Int} {f g : List Int} (h : chkE p f g = 0) : polE p f = 0 ∧ polE p g = 0 := by
  unfold chkE at h
  split at h
  · exact ⟨‹_›, h⟩
  · exact absurd h ‹_›
/-- What Mul hands back for right polynomials. -/
def MulPost (p : Int) (c : Nat → Int) (w : World) (e : Ending) (w' : World) : Prop :=
  ∃ h, IsPol p c h ∧ Below w.heap.size w w' ∧ ((40 < h.length ∧ e = .returned (.tuple #[.slice none 0 0, .int .i64 2])) ∨ (h.length ≤ 40 ∧ ∃ v, e = .returned (.tuple #[v, .int .i64 0]) ∧ w'.ownsRow w.heap.size 3 1 v h.length (h.map (Value.int .i64))))
theorem own_of_heap {w : World} {base e G n : Nat} (f : Nat → Value) (hb : base ≤ G) (h : w.heap[G]? = some (.cells (rowF n f).toArray e (0, 0))) (hn : n ≤ maxLen) : Own w base e G n n f :=
  ⟨by rw [rowF_length, Nat.mul_one], .inr ⟨G, n, (rowF n f).toArray, rfl, hb, h, Nat.le_refl _, hn, by simp [rowF_length], by rw [Nat.mul_one, List.take_of_length_le (by simp [rowF_length])]⟩⟩
theorem splice_row (n : Nat) (f : List Int) (h : f.length ≤ n) : splice (rowF n fun _ => Value.int .i64 0) 0 (f.map (Value.int .i64)) = rowF n (iV (co f)) := by
  apply List.ext_getElem?
  intro j
  unfold splice
  rw [List.take_zero, List.nil_append, Nat.zero_add, List.length_map, List.getElem?_append]
  by_cases hj : j < n
  · rw [rowF_get _ hj]
    by_cases h2 : j < f.length
    · rw [if_pos (by rw [List.length_map]; exact h2), List.getElem?_map, co_some h2]; rfl
    · rw [if_neg (by rw [List.length_map]; exact h2), List.getElem?_drop, List.length_map, show f.length + (j - f.length) = j by omega, rowF_get _ hj]
      unfold iV
      rw [co_out (by omega)]
  · rw [if_neg (by rw [List.length_map]; omega), List.getElem?_eq_none (by simp [rowF_length]; omega), List.getElem?_eq_none (by rw [rowF_length]; omega)]
def addS (p : Int) (f g : List Int) (j k : Nat) : Int := if k < j then (co f k + co g k) % p else co f k
theorem addS_step (p : Int) (f g : List Int) (j k : Nat) : addS p f g (j + 1) k = if k = j then (addS p f g j j + co g j) % p else addS p f g j k := by
  unfold addS
  by_cases h : k = j
  · subst h; rw [if_pos rfl, if_pos (by omega), if_neg (by omega)]
  · rw [if_neg h]
    by_cases h2 : k < j
    · rw [if_pos h2, if_pos (by omega)]
    · rw [if_neg h2, if_neg (by omega)]
/-- What is handed back: a polynomial and no error. -/
def Pol2Post (p : Int) (c : Nat → Int) (w : World) (e : Ending) (w' : World) : Prop :=
  ∃ h v, IsPol p c h ∧ Below w.heap.size w w' ∧ e = .returned (.tuple #[v, .int .i64 0]) ∧ w'.ownsRow w.heap.size 3 1 v h.length (h.map (Value.int .i64))
theorem add_made {w w1 w2 : World} {base G n : Nat} {L : List Value} (h : Own w2 base 3 G n n (fun _ => Value.int .i64 0)) (hL : (rowF n fun _ => Value.int .i64 0) = L) (hgs : w1.heap.size = G) (hb1 : Below w.heap.size w w1) (hg : w1.grownBy w2 none) :
    w2.heap[G]? = some (.cells L.toArray 3 (0, 0)) ∧ Below w.heap.size w w2 := by
  refine ⟨?_, hb1.trans (below_of_grown hg hb1.size (by intro k hk; cases hk))⟩
  rcases h.2 with ⟨hv, _⟩ | ⟨g, cap, cur, hv, hbg, hh, hnc, hcm, hcs, htake⟩
  · cases hv
  · injection hv with e1 e2 e3
    injection e1 with e1
    injection e1 with e1
    subst e1 e3
    rw [hh, ← hL, ← htake, List.take_of_length_le (by rw [Array.length_toList, hcs]; exact Nat.le_refl _)]
theorem add_src {w : World} {ao : Option Addr} {F : List Value} (h : Reads w ao F) (hpos : 0 < F.length) : ∃ ad, ao = some ad ∧ ∀ j v, F[j]? = some v → w.cell? (ad.add j) = some v := by
  obtain ⟨b, o, rfl, _⟩ := h 0 _ (List.getElem?_eq_getElem hpos)
  refine ⟨_, rfl, fun j v hv => ?_⟩
  obtain ⟨b2, o2, ha, hc⟩ := h j v hv
  injection ha with ha
  injection ha with e1 e2
  subst e1 e2
  rw [Addr.add_lit]; exact hc
end Go.Proofs.Ytgdcmebhopjfaaa
namespace Go.Proofs.Ytgdcmebhopjfaaa

/-- A power modulo m. -/
def pwm (a : Int) (n : Nat) (m : Int) : Int := a ^ n % m
theorem pow_emod (a m : Int) (n : Nat) : (a % m) ^ n % m = a ^ n % m := by
  induction n with
  | zero => simp
  | succ n ih => rw [Int.pow_succ, Int.pow_succ, Int.mul_emod, ih, Int.emod_emod, ← Int.mul_emod]
theorem pwm_mod (a m : Int) (n : Nat) : pwm (a % m) n m = pwm a n m := pow_emod a m n
theorem mul_pow_emod (x y m : Int) (j : Nat) : (x % m * (y % m) ^ j) % m = (x * y ^ j) % m := by
  rw [Int.mul_emod, Int.emod_emod, pow_emod, ← Int.mul_emod]
theorem pwm_nonneg (a : Int) (n : Nat) {m : Int} (hm : 1 ≤ m) : 0 ≤ pwm a n m ∧ pwm a n m < m :=
  ⟨Int.emod_nonneg _ (by omega), Int.emod_lt_of_pos _ (by omega)⟩
theorem sq_pow (a : Int) (j : Nat) : (a * a) ^ j = a ^ (2 * j) := by
  induction j with
  | zero => simp
  | succ j ih => rw [Int.pow_succ, ih, show 2 * (j + 1) = 2 * j + 1 + 1 by omega, Int.pow_succ, Int.pow_succ, Int.mul_assoc]
theorem pow_odd (out A : Int) (m : Int) (k : Nat) (h : k % 2 = 1) : (out * A % m * (A * A % m) ^ (k / 2)) % m = (out * A ^ k) % m := by
  rw [mul_pow_emod, sq_pow, Int.mul_assoc, Int.mul_comm A, ← Int.pow_succ]
  congr 3; omega
theorem pow_even (out A : Int) (m : Int) (k : Nat) (h : k % 2 = 0) : (out * (A * A % m) ^ (k / 2)) % m = (out * A ^ k) % m := by
  have : (out * (A * A % m) ^ (k / 2)) % m = (out % m * (A * A % m) ^ (k / 2)) % m := by
    generalize (A * A % m) ^ (k / 2) = X
    exact (Int.mul_emod out X m).trans (by rw [Int.mul_emod (out % m) X m, Int.emod_emod])
  rw [this, mul_pow_emod, sq_pow]
  congr 3; omega
theorem pwm_half (a : Int) (n : Nat) (m : Int) : pwm a (n / 2) m * pwm a (n / 2) m % m = pwm a (2 * (n / 2)) m := by
  unfold pwm
  rw [← Int.mul_emod, show 2 * (n / 2) = n / 2 + n / 2 by omega, Int.pow_add]
theorem pwm_succ (a : Int) (n : Nat) (m : Int) : pwm a n m * (a % m) % m = pwm a (n + 1) m := by
  unfold pwm
  rw [← Int.mul_emod, Int.pow_succ]
theorem prod_bd {x y M : Int} (hx : 0 ≤ x) (hx' : x ≤ M) (hy : 0 ≤ y) (hy' : y ≤ M) : 0 ≤ x * y ∧ x * y ≤ M * M :=
  ⟨Int.mul_nonneg hx hy, Int.mul_le_mul hx' hy' hy (by omega)⟩
end Go.Proofs.Ytgdcmebhopjfaaa
namespace Go.Proofs.Ytgdcmebhopjfaaa

/-- The greatest common divisor, as an integer. -/
def gI (a b : Int) : Int := (Int.gcd a b : Int)

theorem gcd_tmod (a b : Int) : Int.gcd b (a.tmod b) = Int.gcd a b := by
  simp only [Int.gcd, Int.natAbs_tmod]
  rw [Nat.gcd_comm, ← Nat.gcd_rec, Nat.gcd_comm]
theorem tmod_lt (a b : Int) (hb : b ≠ 0) : (a.tmod b).natAbs < b.natAbs := by
  rw [Int.natAbs_tmod]; exact Nat.mod_lt _ (by omega)
theorem tmod_in (a b M : Int) (ha : -M ≤ a ∧ a ≤ M) : -M ≤ a.tmod b ∧ a.tmod b ≤ M := by
  have h : (a.tmod b).natAbs ≤ a.natAbs := by rw [Int.natAbs_tmod]; exact Nat.mod_le _ _
  omega
theorem mod_up (a m : Int) (hm : 1 ≤ m) : (a.tmod m + m) % m = a % m := by
  rw [Int.add_emod_right, Int.tmod_eq_emod]
  split
  · simp [Int.sub_zero, Int.emod_emod]
  · have : ((m.natAbs : Int)) = m := by omega
    rw [this, Int.sub_emod, Int.emod_self]; simp

/-- What the rounds of the inverse keep: x and y tell a and b of a0, modulo m; and they stay within m. -/
structure Inv (a0 m a b x y : Int) : Prop where
  a0' : 0 ≤ a
  b0' : 0 ≤ b
  am : a ≤ m
  bm : b ≤ m
  gcd : Int.gcd a b = 1
  ax : m ∣ x * a0 - a
  by' : m ∣ y * a0 - b
  sum : x.natAbs * b.natAbs + y.natAbs * a.natAbs ≤ m.natAbs
  xm : x.natAbs ≤ m.natAbs
  ym : y.natAbs ≤ m.natAbs

theorem Inv.start (a0 m : Int) (h0 : 0 ≤ a0) (h1 : a0 ≤ m) (hm : 1 ≤ m) (hg : Int.gcd a0 m = 1) : Inv a0 m a0 m 1 0 :=
  ⟨h0, by omega, h1, Int.le_refl _, hg, ⟨0, by simp⟩, ⟨-1, by simp⟩, by simp, by omega, by simp⟩

theorem Inv.step {a0 m a b x y : Int} (h : Inv a0 m a b x y) (hb : b ≠ 0) :
    Inv a0 m b (a - a / b * b) y (x - a / b * y) := by
  have hb1 : 1 ≤ b := by have := h.b0'; omega
  have hr : a - a / b * b = a % b := by have := Int.emod_add_mul_ediv a b; rw [Int.mul_comm] at this; omega
  have hr0 : 0 ≤ a % b := Int.emod_nonneg a hb
  have hrb : a % b < b := Int.emod_lt_of_pos a (by omega)
  have hq0 : 0 ≤ a / b := Int.ediv_nonneg h.a0' (by omega)
  have hy : (x - a / b * y).natAbs ≤ x.natAbs + (a / b).natAbs * y.natAbs := by
    have := Int.natAbs_sub_le x (a / b * y); rw [Int.natAbs_mul] at this; exact this
  have hsum : y.natAbs * (a % b).natAbs + (x - a / b * y).natAbs * b.natAbs ≤ m.natAbs := by
    have e : a.natAbs = (a % b).natAbs + (a / b).natAbs * b.natAbs := by
      have h2 := Int.emod_add_mul_ediv a b
      have h3 : ((a.natAbs : Int)) = ((a % b).natAbs : Int) + ((a / b).natAbs : Int) * (b.natAbs : Int) := by
        rw [Int.natAbs_of_nonneg h.a0', Int.natAbs_of_nonneg hr0, Int.natAbs_of_nonneg hq0, Int.natAbs_of_nonneg h.b0', Int.mul_comm (a / b)]; omega
      exact_mod_cast h3
    have h4 := h.sum
    rw [e] at h4
    calc y.natAbs * (a % b).natAbs + (x - a / b * y).natAbs * b.natAbs
        ≤ y.natAbs * (a % b).natAbs + (x.natAbs + (a / b).natAbs * y.natAbs) * b.natAbs := Nat.add_le_add_left (Nat.mul_le_mul_right _ hy) _
      _ = x.natAbs * b.natAbs + y.natAbs * ((a % b).natAbs + (a / b).natAbs * b.natAbs) := by
          simp only [Nat.add_mul, Nat.mul_add, Nat.mul_assoc, Nat.mul_comm, Nat.mul_left_comm]; omega
      _ ≤ m.natAbs := h4
  refine ⟨h.b0', by rw [hr]; exact hr0, h.bm, by rw [hr]; have := h.bm; omega, ?_, h.by', ?_, by rw [hr]; exact hsum, h.ym, ?_⟩
  · rw [hr, ← h.gcd]
    have := gcd_tmod a b
    rw [Int.tmod_eq_emod_of_nonneg h.a0'] at this
    exact this
  · obtain ⟨u, hu⟩ := h.ax
    obtain ⟨v, hv⟩ := h.by'
    refine ⟨u - a / b * v, ?_⟩
    have e1 : x * a0 = m * u + a := by omega
    have e2 : y * a0 = m * v + b := by omega
    rw [Int.sub_mul, Int.mul_assoc, e1, e2, Int.mul_sub, Int.mul_add]
    have e3 : m * (a / b * v) = a / b * (m * v) := by rw [Int.mul_left_comm]
    rw [e3]; omega
  · have : (x - a / b * y).natAbs * 1 ≤ (x - a / b * y).natAbs * b.natAbs := Nat.mul_le_mul_left _ (by omega)
    omega

theorem Inv.last {a0 m a x y : Int} (h : Inv a0 m a 0 x y) : a = 1 ∧ m ∣ x * a0 - 1 := by
  have h1 := h.gcd
  have h0 := h.a0'
  simp [Int.gcd] at h1
  have : a = 1 := by omega
  subst this
  exact ⟨rfl, h.ax⟩

/-- The products of a round lie far within an int. -/
theorem Inv.bounds {a0 m a b x y : Int} (h : Inv a0 m a b x y) (hb : b ≠ 0) (hm : m ≤ 1000000000) :
    0 ≤ a / b ∧ a / b ≤ 1000000000 ∧ 0 ≤ a / b * b ∧ a / b * b ≤ 1000000000 ∧ -1000000000000000000 ≤ a / b * y ∧ a / b * y ≤ 1000000000000000000 := by
  have hb1 : 1 ≤ b := by have := h.b0'; omega
  have hq0 : 0 ≤ a / b := Int.ediv_nonneg h.a0' (by omega)
  have hqa : a / b ≤ a := Int.ediv_le_self _ h.a0'
  have h2 := Int.emod_add_mul_ediv a b
  rw [Int.mul_comm] at h2
  have hr0 : 0 ≤ a % b := Int.emod_nonneg a hb
  have ham := h.am
  have hqb : 0 ≤ a / b * b := Int.mul_nonneg hq0 (by omega)
  have hym := h.ym
  have hp : (a / b * y).natAbs ≤ 1000000000 * 1000000000 := by
    rw [Int.natAbs_mul]; exact Nat.mul_le_mul (by omega) (by omega)
  omega

/-- The inverse of a modulo m, from 0 on and below m. -/
def IsInv (a m X : Int) : Prop := 0 ≤ X ∧ X < m ∧ m ∣ X * a - 1
noncomputable def invOf (a m : Int) : Int := Classical.epsilon (IsInv a m)
theorem IsInv.uniq {a m X Y : Int} (h : IsInv a m X) (k : IsInv a m Y) : X = Y := by
  obtain ⟨h0, h1, u, hu⟩ := h
  obtain ⟨k0, k1, v, hv⟩ := k
  have e : X - Y = m * (Y * u - X * v) := by
    have e1 : X * (Y * a) = X + m * (X * v) := by
      have : Y * a = m * v + 1 := by omega
      rw [this, Int.mul_add, Int.mul_one, Int.mul_left_comm]; omega
    have e2 : Y * (X * a) = Y + m * (Y * u) := by
      have : X * a = m * u + 1 := by omega
      rw [this, Int.mul_add, Int.mul_one, Int.mul_left_comm]; omega
    have e3 : X * (Y * a) = Y * (X * a) := by rw [Int.mul_left_comm]
    rw [Int.mul_sub]; omega
  have hd : m ∣ X - Y := ⟨_, e⟩
  have h2 := Int.emod_eq_emod_iff_emod_sub_eq_zero.2 (Int.emod_eq_zero_of_dvd hd)
  rwa [Int.emod_eq_of_lt h0 h1, Int.emod_eq_of_lt k0 k1] at h2
theorem invOf_eq {a m X : Int} (h : IsInv a m X) : invOf a m = X := (Classical.epsilon_spec (p := IsInv a m) ⟨X, h⟩).uniq h
theorem IsInv.of {a m X : Int} (h : IsInv a m X) : IsInv a m (invOf a m) := by rw [invOf_eq h]; exact h
theorem isInv_mod {a m x : Int} (hm : 1 ≤ m) (h : m ∣ x * (a % m) - 1) : IsInv a m (x % m) := by
  refine ⟨Int.emod_nonneg _ (by omega), Int.emod_lt_of_pos _ (by omega), ?_⟩
  apply Int.dvd_of_emod_eq_zero
  have h1 := Int.emod_eq_zero_of_dvd h
  rw [Int.sub_emod, Int.mul_emod, Int.emod_emod] at h1 ⊢
  simpa using h1
theorem gcd_emod (a m : Int) : Int.gcd (a % m) m = Int.gcd a m := by rw [Int.emod_def, Int.gcd_sub_mul_left_left]

/-- A number that is not 0, by the greatest common divisor. -/
theorem gcd_split (a b : Int) (hb : b ≠ 0) : ∃ g a' b' : Int, g = Int.gcd a b ∧ 1 ≤ g ∧ a = g * a' ∧ b = g * b' ∧ Int.gcd a' b' = 1 ∧ b' ≠ 0 := by
  have hg : 0 < Int.gcd a b := Int.gcd_pos_of_ne_zero_right a hb
  obtain ⟨a', ha⟩ := Int.gcd_dvd_left (a := a) (b := b)
  obtain ⟨b', hb'⟩ := Int.gcd_dvd_right (a := a) (b := b)
  refine ⟨_, a', b', rfl, by omega, ha, hb', ?_, ?_⟩
  · have h := Int.gcd_mul_left (Int.gcd a b : Int) a' b'
    rw [← ha, ← hb'] at h
    have h2 : Int.gcd a b * Int.gcd a' b' = Int.gcd a b * 1 := by simpa using h.symm
    exact Nat.eq_of_mul_eq_mul_left hg h2
  · intro h; rw [h] at hb'; simp at hb'; exact hb hb'

noncomputable def bezX (a b : Int) : Int :=
  if b = 0 then (if 0 < a then 1 else if a < 0 then -1 else 0) else invOf (a.tdiv (gI a b)) ((max b (-b)).tdiv (gI a b))
noncomputable def bezY (a b : Int) : Int := if b = 0 then 0 else (gI a b - bezX a b * a).tdiv b

theorem tdiv_cancel (g a : Int) (hg : 1 ≤ g) : (g * a).tdiv g = a := Int.mul_tdiv_cancel_left a (by omega)
theorem max_neg_mul (g b : Int) (hg : 1 ≤ g) : max (g * b) (-(g * b)) = g * max b (-b) := by
  have h1 : ∀ x : Int, max x (-x) = x.natAbs := by intro x; omega
  rw [h1, h1, Int.natAbs_mul]; push_cast; rw [show ((g.natAbs : Int)) = g by omega]
theorem bez_parts (a b : Int) (hb : b ≠ 0) : ∃ g a' b' : Int, g = gI a b ∧ 1 ≤ g ∧ a = g * a' ∧ b = g * b' ∧ a.tdiv g = a' ∧ (max b (-b)).tdiv g = max b' (-b') ∧ 1 ≤ max b' (-b') ∧ Int.gcd a' (max b' (-b')) = 1 := by
  obtain ⟨g, a', b', h1, h2, h3, h4, h5, h6⟩ := gcd_split a b hb
  refine ⟨g, a', b', h1, h2, h3, h4, by rw [h3, tdiv_cancel g a' h2], by rw [h4, max_neg_mul g b' h2, tdiv_cancel _ _ h2], by omega, ?_⟩
  have : max b' (-b') = b'.natAbs := by omega
  rw [this]; simpa [Int.gcd] using h5

theorem inv_exists (a m : Int) (hm : 1 ≤ m) (hg : Int.gcd a m = 1) : ∃ X, IsInv a m X := by
  suffices H : ∀ (k : Nat) (c x y d : Int), d.natAbs ≤ k → Inv (a % m) m c d x y → ∃ X, IsInv a m X by
    exact H _ _ _ _ _ (Nat.le_refl _) (Inv.start (a % m) m (Int.emod_nonneg a (by omega)) (Int.le_of_lt (Int.emod_lt_of_pos a (by omega))) hm (by rw [gcd_emod]; exact hg))
  intro k
  induction k with
  | zero =>
    intro c x y d hk h
    obtain rfl : d = 0 := by omega
    exact ⟨_, isInv_mod hm h.last.2⟩
  | succ k ih =>
    intro c x y d hk h
    by_cases hd : d = 0
    · subst hd; exact ⟨_, isInv_mod hm h.last.2⟩
    · refine ih _ _ _ _ ?_ (h.step hd)
      have h1 := Int.emod_lt_of_pos c (b := d) (by have := h.b0'; omega)
      have h3 := Int.emod_nonneg c hd
      have h4 := Int.emod_add_mul_ediv c d
      rw [Int.mul_comm] at h4
      have := h.b0'
      omega

theorem bez_law (a b : Int) (hb : b ≠ 0) : 0 ≤ bezX a b ∧ bezX a b < (max b (-b)).tdiv (gI a b) ∧ bezX a b * a + bezY a b * b = gI a b := by
  obtain ⟨g, a', b', h1, h2, h3, h4, h5, h6, h7, h8⟩ := bez_parts a b hb
  obtain ⟨X, hX⟩ := inv_exists a' _ h7 h8
  have hx : bezX a b = X := by unfold bezX; rw [if_neg hb, ← h1, h5, h6, invOf_eq hX]
  rw [hx, ← h1, h6]
  refine ⟨hX.1, hX.2.1, ?_⟩
  obtain ⟨u, hu⟩ := hX.2.2
  have hb'm : ∃ v : Int, max b' (-b') * u = b' * v := by
    rcases Int.le_total 0 b' with h | h
    · exact ⟨u, by rw [Int.max_eq_left (by omega)]⟩
    · exact ⟨-u, by rw [Int.max_eq_right (by omega), Int.neg_mul, Int.mul_neg]⟩
  obtain ⟨v, hv⟩ := hb'm
  have e : g - X * a = b * (-v) := by
    rw [h3, h4]
    have : X * (g * a') = g * (X * a') := by rw [Int.mul_left_comm]
    rw [this, show X * a' = b' * v + 1 by omega, Int.mul_add, Int.mul_neg, Int.mul_assoc]; omega
  have hy : bezY a b = -v := by
    unfold bezY; rw [if_neg hb, hx, ← h1, e, Int.mul_tdiv_cancel_left _ hb]
  rw [hy, Int.mul_comm (-v) b, ← e]; omega

theorem max_if (b : Int) : max b (-b) = if b < -b then -b else b := by split <;> omega
theorem gI_le (a b : Int) (hb : b ≠ 0) : gI a b ≤ max b (-b) := by
  have := Int.gcd_le_natAbs_right (a := a) (b := b) hb
  unfold gI; omega
theorem gI_pos (a b : Int) (h : a ≠ 0 ∨ b ≠ 0) : 1 ≤ gI a b := by
  have : 0 < Int.gcd a b := by
    rcases h with h | h
    · exact Int.gcd_pos_of_ne_zero_left b h
    · exact Int.gcd_pos_of_ne_zero_right a h
  unfold gI; omega
/-- What Bezout hands to the inverse, and what comes back, in the walk's own spelling. -/
structure BezSteps (a b : Int) : Prop where
  g1 : 1 ≤ gI a b
  gm : gI a b ≤ 1000000000
  lo : -1000000000 ≤ a.tdiv (gI a b)
  hi : a.tdiv (gI a b) ≤ 1000000000
  m1 : 1 ≤ (if b < -b then -b else b) / gI a b
  mm : (if b < -b then -b else b) / gI a b ≤ 1000000000
  gcd : Int.gcd (a.tdiv (gI a b)) ((if b < -b then -b else b) / gI a b) = 1
  x : invOf (a.tdiv (gI a b)) ((if b < -b then -b else b) / gI a b) = bezX a b
  y : (gI a b - bezX a b * a).tdiv b = bezY a b
  x0 : 0 ≤ bezX a b
  xm : bezX a b ≤ 1000000000
  plo : -1000000000000000000 ≤ bezX a b * a
  phi : bezX a b * a ≤ 1000000000000000000
  ylo : -9223372036854775808 ≤ (gI a b - bezX a b * a).tdiv b
  yhi : (gI a b - bezX a b * a).tdiv b ≤ 9223372036854775807
theorem bezSteps (a b : Int) (ha : -1000000000 ≤ a) (ha' : a ≤ 1000000000) (hb : -1000000000 ≤ b) (hb' : b ≤ 1000000000) (h0 : b ≠ 0) : BezSteps a b := by
  obtain ⟨l0, l1, l2⟩ := bez_law a b h0
  have hx : bezX a b = invOf (a.tdiv (gI a b)) ((max b (-b)).tdiv (gI a b)) := by unfold bezX; rw [if_neg h0]
  have hy : bezY a b = (gI a b - bezX a b * a).tdiv b := by unfold bezY; rw [if_neg h0]
  have hg := gI_le a b h0
  have hg1 := gI_pos a b (.inr h0)
  obtain ⟨g, a', b', h1, h2, h3, h4, h5, h6, h7, h8⟩ := bez_parts a b h0
  have hq : (max b (-b)).tdiv (gI a b) = (max b (-b)) / gI a b := Int.tdiv_eq_ediv_of_nonneg (by omega)
  have hq2 : (max b (-b)) / gI a b ≤ max b (-b) := Int.ediv_le_self _ (by omega)
  have hta : (a.tdiv (gI a b)).natAbs ≤ a.natAbs := Int.natAbs_tdiv_le_natAbs _ _
  have hp : (bezX a b * a).natAbs ≤ 1000000000 * 1000000000 := by
    rw [Int.natAbs_mul]; exact Nat.mul_le_mul (by omega) (by omega)
  have hty : ((gI a b - bezX a b * a).tdiv b).natAbs ≤ (gI a b - bezX a b * a).natAbs := Int.natAbs_tdiv_le_natAbs _ _
  subst h1
  rw [hq] at hx l1
  rw [h6] at hq
  simp only [max_if] at *
  exact ⟨by omega, by omega, by omega, by omega, by omega, by omega, by rw [h5, ← hq]; exact h8, hx.symm, hy.symm, l0, by omega, by omega, by omega, by omega, by omega⟩
end Go.Proofs.Ytgdcmebhopjfaaa
