/- IndexFunc and ContainsFunc of package slices, at error codes. -/
import Derived.Test.YtmeffbooabionaaSlices
set_option linter.unusedVariables false
set_option linter.unusedSimpArgs false
namespace Go.Proofs.Ytmeffbooabionaa
open Go.RowKit

set_option maxRecDepth 20000 in
set_option maxHeartbeats 400000 in
theorem indexFunc_err (fn : FuncId) (hfn : ∀ (x : Value) (W : World), (callFunc fn #[x]).run Try.prog W = .ok (.enter fn #[x]) W) (p : Int → Bool) (zs : List Int) (ao : Option Addr) (cap : Nat) (w : World) (hl : zs.length ≤ 9223372036854775807) (hR : Hid (Reads w ao (zs.map (Value.int .i64))))
    (hf : Hid (∀ x ∈ zs, ∀ n, Calls Try.prog fn #[.int .i64 x] (w.drewN n) fun e w' => e = .returned (.bool (p x)) ∧ ∃ m, w' = (w.drewN n).drewN m)) :
    Calls Try.prog 83 #[.slice ao zs.length cap, .func (.func fn) #[] #[]] w fun e w' => e = .returned (.int .i64 (idxI p zs)) ∧ ∃ n, w' = w.drewN n := by
  obtain ⟨len, hlen⟩ : ∃ n, zs.length = n := ⟨_, rfl⟩
  rw [hlen] at hl ⊢
  have HL := Lib.hid hlen
  clear hlen
  go_enter Try.func83, Try.ntmps83
  go_wp2_with fail
  go_loopw [8] (fun vi wr => ∃ k : Nat, vi = .int .i64 k ∧ k ≤ len ∧ Hid (∀ j y, j < k → zs[j]? = some y → p y = false) ∧ ∃ n, wr = w.drewN n) (fun vi _ => len - (intOf vi).toNat)
  case atStart => exact ⟨0, rfl, by omega, by intro j y hj; omega, 0, rfl⟩
  case round =>
    obtain ⟨k, rfl, hk, hno, n, rfl⟩ := hrel
    by_cases hkl : k < len
    · obtain ⟨x, hx⟩ : ∃ x, zs[k]? = some x := ⟨zs[k]'(by rw [HL.out]; exact hkl), List.getElem?_eq_getElem _⟩
      obtain ⟨b, o, rfl, hc⟩ := hR.out k (.int .i64 x) (by simp [hx])
      have HX := Lib.hid hx
      clear hx
      have hcall := Lib.hid (hf.out x (List.mem_of_getElem? HX.out))
      cases hp : p x with
      | true =>
        have HP := Lib.hid hp
        clear hp
        go_wp2_with fail
        refine (hcall.out n).mono ?_
        rw [HP.out]
        rintro e w' ⟨rfl, m, rfl⟩
        go_wp2
        go_ret
        exact ⟨ret_int (idxI_some HX.out HP.out hno.out).symm, _, rfl⟩
      | false =>
        have HP := Lib.hid hp
        clear hp
        go_wp2_with fail
        refine (hcall.out n).mono ?_
        rw [HP.out]
        rintro e w' ⟨rfl, m, rfl⟩
        go_wp2
        go_roundw
        case rel => exact ⟨k + 1, by go_num, by omega, by
          intro j y hj hy
          by_cases he : j = k
          · subst he; rw [HX.out] at hy; cases hy; exact HP.out
          · exact hno.out j y (by omega) hy, _, rfl⟩
        case measure => simp [intOf]; omega
    · obtain rfl : k = len := by omega
      go_wp2
      go_ret
      refine ⟨ret_int (idxI_none fun x hx => ?_).symm, _, rfl⟩
      obtain ⟨j, hj⟩ := List.getElem?_of_mem hx
      have := (List.getElem?_eq_some_iff.1 hj).1
      exact hno.out j x (by have := HL.out; omega) hj
set_option maxHeartbeats 400000 in
theorem containsFunc_err (fn : FuncId) (hfn : ∀ (x : Value) (W : World), (callFunc fn #[x]).run Try.prog W = .ok (.enter fn #[x]) W) (p : Int → Bool) (zs : List Int) (ao : Option Addr) (cap : Nat) (w : World) (hl : zs.length ≤ 9223372036854775807) (hR : Hid (Reads w ao (zs.map (Value.int .i64))))
    (hf : Hid (∀ x ∈ zs, ∀ n, Calls Try.prog fn #[.int .i64 x] (w.drewN n) fun e w' => e = .returned (.bool (p x)) ∧ ∃ m, w' = (w.drewN n).drewN m)) :
    Calls Try.prog 60 #[.slice ao zs.length cap, .func (.func fn) #[] #[]] w fun e w' => e = .returned (.bool (zs.any p)) ∧ ∃ n, w' = w.drewN n := by
  go_enter Try.func60, Try.ntmps60
  go_wp2_with (go_at_call 83; refine (indexFunc_err fn hfn p zs ao cap w hl hR hf).mono ?_; rintro e w' ⟨rfl, n, rfl⟩)
  go_ret
  exact ⟨ret_bool (idxI_nonneg p zs), _, rfl⟩
end Go.Proofs.Ytmeffbooabionaa
namespace Go.Proofs.Ytmeffbooabionaa

def xt (x : Nat) : Nat := if 255 < x * 2 then (x * 2) ^^^ 285 else x * 2
def gm : Nat → Nat → Nat → Nat → Nat
  | 0, _, _, o => o
  | f + 1, a, b, o => gm f (xt a) (b / 2) (if b % 2 = 1 then o ^^^ a else o)
/-- The product. -/
def gmul (a b : Nat) : Nat := gm 8 a b 0

theorem xor_lt256 {a b : Nat} (ha : a < 256) (hb : b < 256) : a ^^^ b < 256 := Nat.xor_lt_two_pow (n := 8) ha hb
theorem xt_lt {x : Nat} (h : x < 256) : xt x < 256 := by
  unfold xt
  split
  · rename_i h1
    have : (x * 2 ^^^ 285) < 512 := Nat.xor_lt_two_pow (n := 9) (by omega) (by omega)
    have h8 : (x * 2 ^^^ 285).testBit 8 = false := by
      rw [Nat.testBit_xor]
      have e1 : (x * 2).testBit 8 = true := by
        rw [Nat.testBit_eq_decide_div_mod_eq]; simp; omega
      rw [e1]; decide
    rw [Nat.testBit_eq_decide_div_mod_eq] at h8
    simp at h8; omega
  · omega
theorem xt_bit {x : Nat} (h : x < 256) : (255 < x * 2) ↔ x.testBit 7 = true := by
  rw [Nat.testBit_eq_decide_div_mod_eq]; simp; omega
theorem dbl_xor (x y : Nat) : (x ^^^ y) * 2 = x * 2 ^^^ y * 2 := by
  have h : ∀ z : Nat, z * 2 = z <<< 1 := fun z => by rw [Nat.shiftLeft_eq]
  rw [h, h, h, Nat.shiftLeft_xor_distrib]
theorem xor4 (a b c d : Nat) : (a ^^^ b) ^^^ (c ^^^ d) = (a ^^^ c) ^^^ (b ^^^ d) := by
  rw [Nat.xor_assoc, Nat.xor_assoc]; congr 1
  rw [← Nat.xor_assoc, ← Nat.xor_assoc, Nat.xor_comm b c]
theorem xt_eq {x : Nat} (h : x < 256) : xt x = if x.testBit 7 = true then x * 2 ^^^ 285 else x * 2 := by
  unfold xt
  simp only [xt_bit h]
theorem xt_xor {x y : Nat} (hx : x < 256) (hy : y < 256) : xt (x ^^^ y) = xt x ^^^ xt y := by
  rw [xt_eq hx, xt_eq hy, xt_eq (xor_lt256 hx hy), Nat.testBit_xor, dbl_xor]
  generalize x * 2 = X
  generalize y * 2 = Y
  cases x.testBit 7 <;> cases y.testBit 7 <;> simp
  · rw [Nat.xor_assoc]
  · rw [Nat.xor_assoc, Nat.xor_assoc, Nat.xor_comm 285]
  · rw [xor4, Nat.xor_self, Nat.xor_zero]
theorem gm_lt (f a b o : Nat) (ha : a < 256) (ho : o < 256) : gm f a b o < 256 := by
  induction f generalizing a b o with
  | zero => exact ho
  | succ f ih =>
    simp only [gm]
    refine ih _ _ _ (xt_lt ha) ?_
    split
    · exact xor_lt256 ho ha
    · exact ho
theorem gmul_lt {a b : Nat} (ha : a < 256) : gmul a b < 256 := gm_lt 8 a b 0 ha (by omega)
theorem gm_left (f a a' b o o' : Nat) (ha : a < 256) (ha' : a' < 256) : gm f (a ^^^ a') b (o ^^^ o') = gm f a b o ^^^ gm f a' b o' := by
  induction f generalizing a a' b o o' with
  | zero => rfl
  | succ f ih =>
    simp only [gm]
    rw [xt_xor ha ha']
    split
    · rw [xor4, ih _ _ _ _ _ (xt_lt ha) (xt_lt ha')]
    · rw [ih _ _ _ _ _ (xt_lt ha) (xt_lt ha')]
theorem gmul_left {a a' : Nat} (b : Nat) (ha : a < 256) (ha' : a' < 256) : gmul (a ^^^ a') b = gmul a b ^^^ gmul a' b := by
  have := gm_left 8 a a' b 0 0 ha ha'
  rwa [Nat.xor_self] at this
theorem mod2_xor (b c : Nat) : (b ^^^ c) % 2 = (b % 2 ^^^ c % 2) := Nat.xor_mod_two_pow (n := 1)
theorem div2_xor (b c : Nat) : (b ^^^ c) / 2 = (b / 2 ^^^ c / 2) := Nat.xor_div_two
theorem gm_right (f a b b' o o' : Nat) : gm f a (b ^^^ b') (o ^^^ o') = gm f a b o ^^^ gm f a b' o' := by
  induction f generalizing a b b' o o' with
  | zero => rfl
  | succ f ih =>
    simp only [gm]
    rw [div2_xor, mod2_xor, ← ih]
    congr 1
    rcases Nat.mod_two_eq_zero_or_one b with h1 | h1 <;> rcases Nat.mod_two_eq_zero_or_one b' with h2 | h2 <;> simp [h1, h2]
    · rw [Nat.xor_assoc]
    · rw [Nat.xor_assoc, Nat.xor_assoc, Nat.xor_comm a]
    · rw [xor4, Nat.xor_self, Nat.xor_zero]
theorem gmul_right (a b b' : Nat) : gmul a (b ^^^ b') = gmul a b ^^^ gmul a b' := by
  have := gm_right 8 a b b' 0 0
  rwa [Nat.xor_self] at this

/-- What is said of the powers of two is said of all bytes. -/
theorem lin_ext (f g : Nat → Nat) (hf : ∀ x y, x < 256 → y < 256 → f (x ^^^ y) = f x ^^^ f y) (hg : ∀ x y, x < 256 → y < 256 → g (x ^^^ y) = g x ^^^ g y)
    (h : ∀ k, k < 8 → f (2 ^ k) = g (2 ^ k)) : ∀ x, x < 256 → f x = g x := by
  have f0 : f 0 = 0 := by have := hf 0 0 (by omega) (by omega); simpa using this
  have g0 : g 0 = 0 := by have := hg 0 0 (by omega) (by omega); simpa using this
  have H : ∀ m, m ≤ 8 → ∀ x, x < 2 ^ m → f x = g x := by
    intro m
    induction m with
    | zero => intro _ x hx; obtain rfl : x = 0 := by simpa using hx
              rw [f0, g0]
    | succ m ih =>
      intro hm x hx
      have hp : 2 ^ m ≤ 128 := Nat.pow_le_pow_right (n := 2) (by omega) (show m ≤ 7 by omega)
      by_cases hxm : x < 2 ^ m
      · exact ih (by omega) x hxm
      · have hr : x ^^^ 2 ^ m < 2 ^ m := by
          have h1 : x.testBit m = true := by
            rw [Nat.testBit_eq_decide_div_mod_eq]
            have : x / 2 ^ m = 1 := by
              rw [Nat.pow_succ] at hx
              exact Nat.div_eq_of_lt_le (by omega) (by omega)
            simp [this]
          refine Nat.lt_pow_two_of_testBit _ fun i hi => ?_
          rw [Nat.testBit_xor]
          by_cases him : i = m
          · subst him; rw [h1, Nat.testBit_two_pow_self]; rfl
          · have h2 : x.testBit i = false := Nat.testBit_lt_two_pow (Nat.lt_of_lt_of_le hx (Nat.pow_le_pow_right (by omega) (by omega)))
            rw [h2, Nat.testBit_two_pow_of_ne (by omega)]; rfl
        have e : x = (x ^^^ 2 ^ m) ^^^ 2 ^ m := by rw [Nat.xor_assoc, Nat.xor_self, Nat.xor_zero]
        rw [e, hf _ _ (by omega) (by omega), hg _ _ (by omega) (by omega), ih (by omega) _ hr, h m (by omega)]
  exact fun x hx => H 8 (Nat.le_refl _) x hx

theorem gmul_comm {a b : Nat} (ha : a < 256) (hb : b < 256) : gmul a b = gmul b a := by
  refine lin_ext (fun x => gmul x b) (fun x => gmul b x) (fun x y hx hy => gmul_left b hx hy) (fun x y _ _ => gmul_right b x y) (fun k hk => ?_) a ha
  refine lin_ext (fun y => gmul (2 ^ k) y) (fun y => gmul y (2 ^ k)) (fun x y _ _ => gmul_right _ x y) (fun x y hx hy => gmul_left _ hx hy) (fun j hj => ?_) b hb
  have H : ∀ k : Fin 8, ∀ j : Fin 8, gmul (2 ^ k.val) (2 ^ j.val) = gmul (2 ^ j.val) (2 ^ k.val) := by decide +kernel
  exact H ⟨k, hk⟩ ⟨j, hj⟩
theorem gmul_assoc {a b c : Nat} (ha : a < 256) (hb : b < 256) (hc : c < 256) : gmul (gmul a b) c = gmul a (gmul b c) := by
  have p8 : ∀ k, k < 8 → 2 ^ k < 256 := fun k hk => by have := Nat.pow_lt_pow_right (a := 2) (by omega) hk; omega
  refine lin_ext (fun x => gmul (gmul x b) c) (fun x => gmul x (gmul b c)) (fun x y hx hy => ?_) (fun x y hx hy => gmul_left _ hx hy) (fun k hk => ?_) a ha
  · show gmul (gmul (x ^^^ y) b) c = _
    rw [gmul_left b hx hy, gmul_left c (gmul_lt hx) (gmul_lt hy)]
  refine lin_ext (fun y => gmul (gmul (2 ^ k) y) c) (fun y => gmul (2 ^ k) (gmul y c)) (fun x y _ _ => ?_) (fun x y hx hy => ?_) (fun j hj => ?_) b hb
  · show gmul (gmul (2 ^ k) (x ^^^ y)) c = _
    rw [gmul_right, gmul_left c (gmul_lt (p8 k hk)) (gmul_lt (p8 k hk))]
  · show gmul (2 ^ k) (gmul (x ^^^ y) c) = _
    rw [gmul_left c hx hy, gmul_right]
  refine lin_ext (fun z => gmul (gmul (2 ^ k) (2 ^ j)) z) (fun z => gmul (2 ^ k) (gmul (2 ^ j) z)) (fun x y _ _ => gmul_right _ x y) (fun x y _ _ => ?_) (fun i hi => ?_) c hc
  · show gmul (2 ^ k) (gmul (2 ^ j) (x ^^^ y)) = _
    rw [gmul_right, gmul_right]
  have H : ∀ k : Fin 8, ∀ j : Fin 8, ∀ i : Fin 8, gmul (gmul (2 ^ k.val) (2 ^ j.val)) (2 ^ i.val) = gmul (2 ^ k.val) (gmul (2 ^ j.val) (2 ^ i.val)) := by decide +kernel
  exact H ⟨k, hk⟩ ⟨j, hj⟩ ⟨i, hi⟩
theorem gmul_zero (a : Nat) : gmul a 0 = 0 := by have := gmul_right a 0 0; simpa using this
theorem zero_gmul (b : Nat) : gmul 0 b = 0 := by have := gmul_left b (a := 0) (a' := 0) (by omega) (by omega); simpa using this
theorem gmul_one {a : Nat} (_ha : a < 256) : gmul a 1 = a := by simp [gmul, gm]
theorem one_gmul {a : Nat} (ha : a < 256) : gmul 1 a = a := by rw [gmul_comm (by omega) ha, gmul_one ha]

/-- The inverse: the power 254. -/
def ginv (a : Nat) : Nat :=
  let a2 := gmul a a; let a4 := gmul a2 a2; let a8 := gmul a4 a4; let a16 := gmul a8 a8; let a32 := gmul a16 a16; let a64 := gmul a32 a32; let a128 := gmul a64 a64
  gmul (gmul (gmul (gmul (gmul (gmul a2 a4) a8) a16) a32) a64) a128
theorem ginv_lt {a : Nat} (ha : a < 256) : ginv a < 256 := by
  unfold ginv
  exact gmul_lt (gmul_lt (gmul_lt (gmul_lt (gmul_lt (gmul_lt (gmul_lt ha))))))
theorem gmul_ginv {a : Nat} (ha : a < 256) (h0 : a ≠ 0) : gmul a (ginv a) = 1 := by
  have H : ∀ a : Fin 256, a.val ≠ 0 → gmul a.val (ginv a.val) = 1 := by decide +kernel
  exact H ⟨a, ha⟩ h0
theorem gmul_eq_zero {a b : Nat} (ha : a < 256) (hb : b < 256) : gmul a b = 0 ↔ a = 0 ∨ b = 0 := by
  constructor
  · intro h
    by_cases h0 : a = 0
    · exact .inl h0
    · right
      have h1 : gmul (ginv a) (gmul a b) = b := by
        rw [← gmul_assoc (ginv_lt ha) ha hb, gmul_comm (ginv_lt ha) ha, gmul_ginv ha h0, one_gmul hb]
      rw [h, gmul_zero] at h1; exact h1.symm
  · rintro (h | h) <;> subst h
    · exact zero_gmul _
    · exact gmul_zero _
attribute [irreducible] gmul
end Go.Proofs.Ytmeffbooabionaa
namespace Go.Proofs.Ytmeffbooabionaa

def gpow (a : Nat) : Nat → Nat
  | 0 => 1
  | n + 1 => gmul (gpow a n) a
theorem gpow_lt {a : Nat} (n : Nat) : gpow a n < 256 := by
  induction n with
  | zero => simp [gpow]
  | succ n ih => exact gmul_lt ih
theorem gpow_one {a : Nat} (ha : a < 256) : gpow a 1 = a := by simp only [gpow]; exact one_gmul ha
theorem gpow_add {a : Nat} (ha : a < 256) (m n : Nat) : gpow a (m + n) = gmul (gpow a m) (gpow a n) := by
  induction n with
  | zero => simp only [gpow, Nat.add_zero]; rw [gmul_one (gpow_lt m)]
  | succ n ih => rw [← Nat.add_assoc]; simp only [gpow]; rw [ih, gmul_assoc (gpow_lt m) (gpow_lt n) ha]
theorem gpow_sq {a : Nat} (ha : a < 256) (n : Nat) : gpow (gmul a a) n = gpow a (2 * n) := by
  induction n with
  | zero => rfl
  | succ n ih =>
    have e : 2 * (n + 1) = 2 * n + 2 := by omega
    rw [e, gpow_add ha]
    have h2 : gpow a 2 = gmul a a := by simp only [gpow]; rw [one_gmul ha]
    simp only [gpow] at h2 ⊢
    rw [ih, h2]
theorem ginv_pow {a : Nat} (ha : a < 256) : ginv a = gpow a 254 := by
  have h2 : gmul a a = gpow a 2 := by simp only [gpow]; rw [one_gmul ha]
  have hs : ∀ n, gmul (gpow a n) (gpow a n) = gpow a (n + n) := fun n => (gpow_add ha n n).symm
  unfold ginv
  simp only [h2, hs, ← gpow_add ha]
theorem gpow_255 {a : Nat} (ha : a < 256) (h0 : a ≠ 0) : gpow a 255 = 1 := by
  show gmul (gpow a 254) a = 1
  rw [← ginv_pow ha, gmul_comm (ginv_lt ha) ha, gmul_ginv ha h0]
theorem gpow_zero_succ (n : Nat) : gpow 0 (n + 1) = 0 := gmul_zero _
theorem gpow_period {a : Nat} (ha : a < 256) (n : Nat) (hn : 1 ≤ n) : gpow a (n + 255) = gpow a n := by
  by_cases h0 : a = 0
  · subst h0
    obtain ⟨m, rfl⟩ : ∃ m, n = m + 1 := ⟨n - 1, by omega⟩
    rw [show m + 1 + 255 = (m + 255) + 1 by omega, gpow_zero_succ, gpow_zero_succ]
  · rw [gpow_add ha, gpow_255 ha h0, gmul_one (gpow_lt n)]
theorem gpow_red {a : Nat} (ha : a < 256) (n : Nat) (hn : 1 ≤ n) : gpow a ((n - 1) % 255 + 1) = gpow a n := by
  have H : ∀ q r, gpow a (r + 1 + 255 * q) = gpow a (r + 1) := by
    intro q r
    induction q with
    | zero => rfl
    | succ q ih => rw [show r + 1 + 255 * (q + 1) = (r + 1 + 255 * q) + 255 by omega, gpow_period ha _ (by omega), ih]
  have e : n = (n - 1) % 255 + 1 + 255 * ((n - 1) / 255) := by omega
  conv => rhs; rw [e]
  rw [H]

def powList : Nat → Nat → List Nat
  | 0, _ => []
  | f + 1, x => x :: powList f (xt x)
set_option maxRecDepth 100000 in
theorem powList_eq : powList 255 1 = [1, 2, 4, 8, 16, 32, 64, 128, 29, 58, 116, 232, 205, 135, 19, 38, 76, 152, 45, 90, 180, 117, 234, 201, 143, 3, 6, 12, 24, 48, 96, 192, 157, 39, 78, 156, 37, 74, 148, 53, 106, 212, 181, 119, 238, 193, 159, 35, 70, 140, 5, 10, 20, 40, 80, 160, 93, 186, 105, 210, 185, 111, 222, 161, 95, 190, 97, 194, 153, 47, 94, 188, 101, 202, 137, 15, 30, 60, 120, 240, 253, 231, 211, 187, 107, 214, 177, 127, 254, 225, 223, 163, 91, 182, 113, 226, 217, 175, 67, 134, 17, 34, 68, 136, 13, 26, 52, 104, 208, 189, 103, 206, 129, 31, 62, 124, 248, 237, 199, 147, 59, 118, 236, 197, 151, 51, 102, 204, 133, 23, 46, 92, 184, 109, 218, 169, 79, 158, 33, 66, 132, 21, 42, 84, 168, 77, 154, 41, 82, 164, 85, 170, 73, 146, 57, 114, 228, 213, 183, 115, 230, 209, 191, 99, 198, 145, 63, 126, 252, 229, 215, 179, 123, 246, 241, 255, 227, 219, 171, 75, 150, 49, 98, 196, 149, 55, 110, 220, 165, 87, 174, 65, 130, 25, 50, 100, 200, 141, 7, 14, 28, 56, 112, 224, 221, 167, 83, 166, 81, 162, 89, 178, 121, 242, 249, 239, 195, 155, 43, 86, 172, 69, 138, 9, 18, 36, 72, 144, 61, 122, 244, 245, 247, 243, 251, 235, 203, 139, 11, 22, 44, 88, 176, 125, 250, 233, 207, 131, 27, 54, 108, 216, 173, 71, 142] := by decide +kernel
theorem gmul_two {x : Nat} (h : x < 256) : gmul x 2 = xt x := by simp [gmul, gm]
theorem powList_get (f x k : Nat) (hk : k < f) (hx : x < 256) : (powList f x)[k]? = some (gmul x (gpow 2 k)) := by
  induction f generalizing x k with
  | zero => omega
  | succ f ih =>
    cases k with
    | zero => simp [powList, gpow, gmul_one hx]
    | succ k =>
      simp only [powList, List.getElem?_cons_succ]
      have h1 : gpow 2 (k + 1) = gmul (gpow 2 k) 2 := rfl
      have h2 : gmul (xt x) (gpow 2 k) = gmul x (gpow 2 (k + 1)) := by
        rw [h1, ← gmul_two hx, gmul_assoc hx (show 2 < 256 by omega) (gpow_lt k), gmul_comm (show 2 < 256 by omega) (gpow_lt k)]
      rw [ih _ _ (by omega) (xt_lt hx), h2]
theorem powList_length (f x : Nat) : (powList f x).length = f := by
  induction f generalizing x with
  | zero => rfl
  | succ f ih => simp [powList, ih]
set_option maxRecDepth 100000 in
theorem powList_all : ∀ a : Fin 256, a.val ≠ 0 → (powList 255 1).contains a.val = true := by
  rw [powList_eq]; decide +kernel
theorem log_exists {a : Nat} (ha : a < 256) (h0 : a ≠ 0) : ∃ k, k < 255 ∧ gpow 2 k = a := by
  have h1 := powList_all ⟨a, ha⟩ h0
  simp only [List.contains_iff_mem] at h1
  obtain ⟨k, hk⟩ := List.getElem?_of_mem h1
  have hl : (powList 255 1).length = 255 := powList_length _ _
  have hk2 : k < 255 := by have := (List.getElem?_eq_some_iff.1 hk).1; omega
  rw [powList_get 255 1 k hk2 (by omega), one_gmul (gpow_lt k)] at hk
  exact ⟨k, hk2, by simpa using hk⟩
/-- The logarithm to the base 2: the first exponent. -/
noncomputable def glog (a : Nat) : Nat := Classical.epsilon fun k => gpow 2 k = a ∧ ∀ j, j < k → gpow 2 j ≠ a
theorem first_exists {p : Nat → Prop} {k : Nat} (h : p k) : ∃ m, m ≤ k ∧ p m ∧ ∀ j, j < m → ¬ p j := by
  induction k using Nat.strongRecOn with
  | _ k ih =>
    by_cases hh : ∃ j, j < k ∧ p j
    · obtain ⟨j, hj, hp⟩ := hh
      obtain ⟨m, hm, h2⟩ := ih j hj hp
      exact ⟨m, by omega, h2⟩
    · exact ⟨k, Nat.le_refl _, h, fun j hj hp => hh ⟨j, hj, hp⟩⟩
theorem glog_spec {a : Nat} (ha : a < 256) (h0 : a ≠ 0) : glog a < 255 ∧ gpow 2 (glog a) = a ∧ ∀ j, j < glog a → gpow 2 j ≠ a := by
  obtain ⟨k, hk, he⟩ := log_exists ha h0
  obtain ⟨m, hm, h1, h2⟩ := first_exists (p := fun k => gpow 2 k = a) he
  have hs := Classical.epsilon_spec (p := fun k => gpow 2 k = a ∧ ∀ j, j < k → gpow 2 j ≠ a) ⟨m, h1, h2⟩
  refine ⟨?_, hs.1, hs.2⟩
  rcases Nat.lt_or_ge (glog a) 255 with h3 | h3
  · exact h3
  · exact absurd he (hs.2 k (Nat.lt_of_lt_of_le hk h3))

/-! ### The reference's product -/
def cmulN : Nat → Nat → Nat → Nat
  | 0, _, _ => 0
  | i + 1, a, b => cmulN i a b ^^^ (a / 2 ^ i % 2 * b) * 2 ^ i
def redN : Nat → Nat → Nat
  | 0, x => x
  | j + 1, x => redN j (if x / 2 ^ (j + 8) % 2 = 1 then x ^^^ 285 * 2 ^ j else x)
def timesN (a b : Nat) : Nat := redN 7 (cmulN 8 a b) % 256
theorem mul_pow_xor (x y i : Nat) : (x ^^^ y) * 2 ^ i = x * 2 ^ i ^^^ y * 2 ^ i := by
  rw [← Nat.shiftLeft_eq, ← Nat.shiftLeft_eq, ← Nat.shiftLeft_eq, Nat.shiftLeft_xor_distrib]
theorem div_pow_xor (x y i : Nat) : (x ^^^ y) / 2 ^ i = x / 2 ^ i ^^^ y / 2 ^ i := by
  rw [← Nat.shiftRight_eq_div_pow, ← Nat.shiftRight_eq_div_pow, ← Nat.shiftRight_eq_div_pow, Nat.shiftRight_xor_distrib]
theorem bit_xor (x y i : Nat) : (x ^^^ y) / 2 ^ i % 2 = (x / 2 ^ i % 2 ^^^ y / 2 ^ i % 2) := by rw [div_pow_xor, mod2_xor]
theorem cmulN_right (i a b b' : Nat) : cmulN i a (b ^^^ b') = cmulN i a b ^^^ cmulN i a b' := by
  induction i with
  | zero => simp [cmulN]
  | succ i ih =>
    simp only [cmulN]
    rw [ih, xor4]
    congr 1
    rcases Nat.mod_two_eq_zero_or_one (a / 2 ^ i) with h | h <;> simp [h, mul_pow_xor]
theorem cmulN_left (i a a' b : Nat) : cmulN i (a ^^^ a') b = cmulN i a b ^^^ cmulN i a' b := by
  induction i with
  | zero => simp [cmulN]
  | succ i ih =>
    simp only [cmulN]
    rw [ih, xor4, bit_xor]
    congr 1
    rcases Nat.mod_two_eq_zero_or_one (a / 2 ^ i) with h | h <;> rcases Nat.mod_two_eq_zero_or_one (a' / 2 ^ i) with h' | h' <;> simp [h, h']
theorem redN_xor (j x y : Nat) : redN j (x ^^^ y) = redN j x ^^^ redN j y := by
  induction j generalizing x y with
  | zero => rfl
  | succ j ih =>
    simp only [redN]
    rw [← ih, bit_xor]
    congr 1
    generalize 285 * 2 ^ j = c
    rcases Nat.mod_two_eq_zero_or_one (x / 2 ^ (j + 8)) with h | h <;> rcases Nat.mod_two_eq_zero_or_one (y / 2 ^ (j + 8)) with h' | h' <;> simp [h, h']
    · rw [Nat.xor_assoc]
    · rw [Nat.xor_assoc, Nat.xor_assoc, Nat.xor_comm c]
    · rw [xor4, Nat.xor_self, Nat.xor_zero]
theorem timesN_right (a b b' : Nat) : timesN a (b ^^^ b') = timesN a b ^^^ timesN a b' := by
  unfold timesN; rw [cmulN_right, redN_xor, Nat.xor_mod_two_pow (n := 8)]
theorem timesN_left (a a' b : Nat) : timesN (a ^^^ a') b = timesN a b ^^^ timesN a' b := by
  unfold timesN; rw [cmulN_left, redN_xor, Nat.xor_mod_two_pow (n := 8)]
theorem timesN_eq {a b : Nat} (ha : a < 256) (hb : b < 256) : timesN a b = gmul a b := by
  refine lin_ext (fun x => timesN x b) (fun x => gmul x b) (fun x y _ _ => timesN_left x y b) (fun x y hx hy => gmul_left b hx hy) (fun k hk => ?_) a ha
  refine lin_ext (fun y => timesN (2 ^ k) y) (fun y => gmul (2 ^ k) y) (fun x y _ _ => timesN_right _ x y) (fun x y _ _ => gmul_right _ x y) (fun j hj => ?_) b hb
  have H : ∀ k : Fin 8, ∀ j : Fin 8, timesN (2 ^ k.val) (2 ^ j.val) = gmul (2 ^ k.val) (2 ^ j.val) := by decide +kernel
  exact H ⟨k, hk⟩ ⟨j, hj⟩
end Go.Proofs.Ytmeffbooabionaa
