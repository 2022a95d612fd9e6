/- The field of 256 elements in plain arithmetic: no program in sight. -/

namespace Go.Proofs.Ytioecklnijhjgaa

def xt (x : Nat) : Nat := if 255 < x * 2 then (x * 2) ^^^ 285 else x * 2
def gm : Nat → Nat → Nat → Nat → Nat
  | 0, _, _, o => o
  | f + 1, a, b, o => gm f (xt a) (b / 2) (if b % 2 = 1 then o ^^^ a else o)
/-- The product. -/
def gmul (a b : Nat) : Nat := gm 8 a b 0

theorem xor_lt256 {a b : Nat} (ha : a < 256) (hb : b < 256) : a ^^^ b < 256 := Nat.xor_lt_two_pow (n := 8) ha hb
theorem xt_lt {x : Nat} (h : x < 256) : xt x < 256 := by
  unfold xt
  split
  · rename_i h1
    have : (x * 2 ^^^ 285) < 512 := Nat.xor_lt_two_pow (n := 9) (by omega) (by omega)
    have h8 : (x * 2 ^^^ 285).testBit 8 = false := by
      rw [Nat.testBit_xor]
      have e1 : (x * 2).testBit 8 = true := by
        rw [Nat.testBit_eq_decide_div_mod_eq]; simp; omega
      rw [e1]; decide
    rw [Nat.testBit_eq_decide_div_mod_eq] at h8
    simp at h8; omega
  · omega
theorem xt_bit {x : Nat} (h : x < 256) : (255 < x * 2) ↔ x.testBit 7 = true := by
  rw [Nat.testBit_eq_decide_div_mod_eq]; simp; omega
theorem dbl_xor (x y : Nat) : (x ^^^ y) * 2 = x * 2 ^^^ y * 2 := by
  have h : ∀ z : Nat, z * 2 = z <<< 1 := fun z => by rw [Nat.shiftLeft_eq]
  rw [h, h, h, Nat.shiftLeft_xor_distrib]
theorem xor4 (a b c d : Nat) : (a ^^^ b) ^^^ (c ^^^ d) = (a ^^^ c) ^^^ (b ^^^ d) := by
  rw [Nat.xor_assoc, Nat.xor_assoc]; congr 1
  rw [← Nat.xor_assoc, ← Nat.xor_assoc, Nat.xor_comm b c]
theorem xt_eq {x : Nat} (h : x < 256) : xt x = if x.testBit 7 = true then x * 2 ^^^ 285 else x * 2 := by
  unfold xt
  simp only [xt_bit h]
theorem xt_xor {x y : Nat} (hx : x < 256) (hy : y < 256) : xt (x ^^^ y) = xt x ^^^ xt y := by
  rw [xt_eq hx, xt_eq hy, xt_eq (xor_lt256 hx hy), Nat.testBit_xor, dbl_xor]
  generalize x * 2 = X
  generalize y * 2 = Y
  cases x.testBit 7 <;> cases y.testBit 7 <;> simp
  · rw [Nat.xor_assoc]
  · rw [Nat.xor_assoc, Nat.xor_assoc, Nat.xor_comm 285]
  · rw [xor4, Nat.xor_self, Nat.xor_zero]
theorem gm_lt (f a b o : Nat) (ha : a < 256) (ho : o < 256) : gm f a b o < 256 := by
  induction f generalizing a b o with
  | zero => exact ho
  | succ f ih =>
    simp only [gm]
    refine ih _ _ _ (xt_lt ha) ?_
    split
    · exact xor_lt256 ho ha
    · exact ho
theorem gmul_lt {a b : Nat} (ha : a < 256) : gmul a b < 256 := gm_lt 8 a b 0 ha (by omega)
theorem gm_left (f a a' b o o' : Nat) (ha : a < 256) (ha' : a' < 256) : gm f (a ^^^ a') b (o ^^^ o') = gm f a b o ^^^ gm f a' b o' := by
  induction f generalizing a a' b o o' with
  | zero => rfl
  | succ f ih =>
    simp only [gm]
    rw [xt_xor ha ha']
    split
    · rw [xor4, ih _ _ _ _ _ (xt_lt ha) (xt_lt ha')]
    · rw [ih _ _ _ _ _ (xt_lt ha) (xt_lt ha')]
theorem gmul_left {a a' : Nat} (b : Nat) (ha : a < 256) (ha' : a' < 256) : gmul (a ^^^ a') b = gmul a b ^^^ gmul a' b := by
  have := gm_left 8 a a' b 0 0 ha ha'
  rwa [Nat.xor_self] at this
theorem mod2_xor (b c : Nat) : (b ^^^ c) % 2 = (b % 2 ^^^ c % 2) := Nat.xor_mod_two_pow (n := 1)
theorem div2_xor (b c : Nat) : (b ^^^ c) / 2 = (b / 2 ^^^ c / 2) := Nat.xor_div_two
theorem gm_right (f a b b' o o' : Nat) : gm f a (b ^^^ b') (o ^^^ o') = gm f a b o ^^^ gm f a b' o' := by
  induction f generalizing a b b' o o' with
  | zero => rfl
  | succ f ih =>
    simp only [gm]
    rw [div2_xor, mod2_xor, ← ih]
    congr 1
    rcases Nat.mod_two_eq_zero_or_one b with h1 | h1 <;> rcases Nat.mod_two_eq_zero_or_one b' with h2 | h2 <;> simp [h1, h2]
    · rw [Nat.xor_assoc]
    · rw [Nat.xor_assoc, Nat.xor_assoc, Nat.xor_comm a]
    · rw [xor4, Nat.xor_self, Nat.xor_zero]
theorem gmul_right (a b b' : Nat) : gmul a (b ^^^ b') = gmul a b ^^^ gmul a b' := by
  have := gm_right 8 a b b' 0 0
  rwa [Nat.xor_self] at this

/-- What is said of the powers of two is said of all bytes. -/
theorem lin_ext (f g : Nat → Nat) (hf : ∀ x y, x < 256 → y < 256 → f (x ^^^ y) = f x ^^^ f y) (hg : ∀ x y, x < 256 → y < 256 → g (x ^^^ y) = g x ^^^ g y)
    (h : ∀ k, k < 8 → f (2 ^ k) = g (2 ^ k)) : ∀ x, x < 256 → f x = g x := by
  have f0 : f 0 = 0 := by have := hf 0 0 (by omega) (by omega); simpa using this
  have g0 : g 0 = 0 := by have := hg 0 0 (by omega) (by omega); simpa using this
  have H : ∀ m, m ≤ 8 → ∀ x, x < 2 ^ m → f x = g x := by
    intro m
    induction m with
    | zero => intro _ x hx; obtain rfl : x = 0 := by simpa using hx
              rw [f0, g0]
    | succ m ih =>
      intro hm x hx
      have hp : 2 ^ m ≤ 128 := Nat.pow_le_pow_right (n := 2) (by omega) (show m ≤ 7 by omega)
      by_cases hxm : x < 2 ^ m
      · exact ih (by omega) x hxm
      · have hr : x ^^^ 2 ^ m < 2 ^ m := by
          have h1 : x.testBit m = true := by
            rw [Nat.testBit_eq_decide_div_mod_eq]
            have : x / 2 ^ m = 1 := by
              rw [Nat.pow_succ] at hx
              exact Nat.div_eq_of_lt_le (by omega) (by omega)
            simp [this]
          refine Nat.lt_pow_two_of_testBit _ fun i hi => ?_
          rw [Nat.testBit_xor]
          by_cases him : i = m
          · subst him; rw [h1, Nat.testBit_two_pow_self]; rfl
          · have h2 : x.testBit i = false := Nat.testBit_lt_two_pow (Nat.lt_of_lt_of_le hx (Nat.pow_le_pow_right (by omega) (by omega)))
            rw [h2, Nat.testBit_two_pow_of_ne (by omega)]; rfl
        have e : x = (x ^^^ 2 ^ m) ^^^ 2 ^ m := by rw [Nat.xor_assoc, Nat.xor_self, Nat.xor_zero]
        rw [e, hf _ _ (by omega) (by omega), hg _ _ (by omega) (by omega), ih (by omega) _ hr, h m (by omega)]
  exact fun x hx => H 8 (Nat.le_refl _) x hx

theorem gmul_comm {a b : Nat} (ha : a < 256) (hb : b < 256) : gmul a b = gmul b a := by
  refine lin_ext (fun x => gmul x b) (fun x => gmul b x) (fun x y hx hy => gmul_left b hx hy) (fun x y _ _ => gmul_right b x y) (fun k hk => ?_) a ha
  refine lin_ext (fun y => gmul (2 ^ k) y) (fun y => gmul y (2 ^ k)) (fun x y _ _ => gmul_right _ x y) (fun x y hx hy => gmul_left _ hx hy) (fun j hj => ?_) b hb
  have H : ∀ k : Fin 8, ∀ j : Fin 8, gmul (2 ^ k.val) (2 ^ j.val) = gmul (2 ^ j.val) (2 ^ k.val) := by decide +kernel
  exact H ⟨k, hk⟩ ⟨j, hj⟩
theorem gmul_assoc {a b c : Nat} (ha : a < 256) (hb : b < 256) (hc : c < 256) : gmul (gmul a b) c = gmul a (gmul b c) := by
  have p8 : ∀ k, k < 8 → 2 ^ k < 256 := fun k hk => by have := Nat.pow_lt_pow_right (a := 2) (by omega) hk; omega
  refine lin_ext (fun x => gmul (gmul x b) c) (fun x => gmul x (gmul b c)) (fun x y hx hy => ?_) (fun x y hx hy => gmul_left _ hx hy) (fun k hk => ?_) a ha
  · show gmul (gmul (x ^^^ y) b) c = _
    rw [gmul_left b hx hy, gmul_left c (gmul_lt hx) (gmul_lt hy)]
  refine lin_ext (fun y => gmul (gmul (2 ^ k) y) c) (fun y => gmul (2 ^ k) (gmul y c)) (fun x y _ _ => ?_) (fun x y hx hy => ?_) (fun j hj => ?_) b hb
  · show gmul (gmul (2 ^ k) (x ^^^ y)) c = _
    rw [gmul_right, gmul_left c (gmul_lt (p8 k hk)) (gmul_lt (p8 k hk))]
  · show gmul (2 ^ k) (gmul (x ^^^ y) c) = _
    rw [gmul_left c hx hy, gmul_right]
  refine lin_ext (fun z => gmul (gmul (2 ^ k) (2 ^ j)) z) (fun z => gmul (2 ^ k) (gmul (2 ^ j) z)) (fun x y _ _ => gmul_right _ x y) (fun x y _ _ => ?_) (fun i hi => ?_) c hc
  · show gmul (2 ^ k) (gmul (2 ^ j) (x ^^^ y)) = _
    rw [gmul_right, gmul_right]
  have H : ∀ k : Fin 8, ∀ j : Fin 8, ∀ i : Fin 8, gmul (gmul (2 ^ k.val) (2 ^ j.val)) (2 ^ i.val) = gmul (2 ^ k.val) (gmul (2 ^ j.val) (2 ^ i.val)) := by decide +kernel
  exact H ⟨k, hk⟩ ⟨j, hj⟩ ⟨i, hi⟩
theorem gmul_zero (a : Nat) : gmul a 0 = 0 := by have := gmul_right a 0 0; simpa using this
theorem zero_gmul (b : Nat) : gmul 0 b = 0 := by have := gmul_left b (a := 0) (a' := 0) (by omega) (by omega); simpa using this
theorem gmul_one {a : Nat} (_ha : a < 256) : gmul a 1 = a := by simp [gmul, gm]
theorem one_gmul {a : Nat} (ha : a < 256) : gmul 1 a = a := by rw [gmul_comm (by omega) ha, gmul_one ha]

/-- The inverse: the power 254. -/
def ginv (a : Nat) : Nat :=
  let a2 := gmul a a; let a4 := gmul a2 a2; let a8 := gmul a4 a4; let a16 := gmul a8 a8; let a32 := gmul a16 a16; let a64 := gmul a32 a32; let a128 := gmul a64 a64
  gmul (gmul (gmul (gmul (gmul (gmul a2 a4) a8) a16) a32) a64) a128
theorem ginv_lt {a : Nat} (ha : a < 256) : ginv a < 256 := by
  unfold ginv
  exact gmul_lt (gmul_lt (gmul_lt (gmul_lt (gmul_lt (gmul_lt (gmul_lt ha))))))
theorem gmul_ginv {a : Nat} (ha : a < 256) (h0 : a ≠ 0) : gmul a (ginv a) = 1 := by
  have H : ∀ a : Fin 256, a.val ≠ 0 → gmul a.val (ginv a.val) = 1 := by decide +kernel
  exact H ⟨a, ha⟩ h0
theorem gmul_eq_zero {a b : Nat} (ha : a < 256) (hb : b < 256) : gmul a b = 0 ↔ a = 0 ∨ b = 0 := by
  constructor
  · intro h
    by_cases h0 : a = 0
    · exact .inl h0
    · right
      have h1 : gmul (ginv a) (gmul a b) = b := by
        rw [← gmul_assoc (ginv_lt ha) ha hb, gmul_comm (ginv_lt ha) ha, gmul_ginv ha h0, one_gmul hb]
      rw [h, gmul_zero] at h1; exact h1.symm
  · rintro (h | h) <;> subst h
    · exact zero_gmul _
    · exact gmul_zero _
attribute [irreducible] gmul
end Go.Proofs.Ytioecklnijhjgaa
