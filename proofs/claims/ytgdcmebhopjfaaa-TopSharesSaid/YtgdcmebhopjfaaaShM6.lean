/- Contracts of package divide: Moebius, check, sums. -/
import Derived.Test.YtgdcmebhopjfaaaRows
import Derived.Test.YtgdcmebhopjfaaaShM5
import Derived.Test.YtgdcmebhopjfaaaShM3
import Derived.Test.YtgdcmebhopjfaaaShM2
import Derived.Test.YtgdcmebhopjfaaaShM0
import Derived.Deep.RegionLaw
import Derived.Deep.DrawnRows
namespace Go.Proofs.Ytgdcmebhopjfaaa
open Go.RowKit

theorem powCells_get (l : List (Nat × Nat)) (k : Nat) (a : Nat × Nat) (h : l[k]? = some a) : (powCells l)[k * 2]? = some (.int .i64 a.1) ∧ (powCells l)[k * 2 + 1]? = some (.int .i64 a.2) := by
  induction l generalizing k with
  | nil => simp at h
  | cons b l ih =>
    cases k with
    | zero => simp at h; subst h; simp [powCells]
    | succ k =>
      simp at h
      have := ih k h
      have e1 : (k + 1) * 2 = k * 2 + 2 := by omega
      rw [e1]
      simpa [powCells] using this
theorem take_snoc2 {α : Type} (l : List α) (k : Nat) (a : α) (h : l[k]? = some a) : l.take (k + 1) = l.take k ++ [a] := by
  obtain ⟨hl, he⟩ := List.getElem?_eq_some_iff.1 h
  rw [List.take_succ_eq_append_getElem hl, he]
theorem valL_zero {g : Nat → Nat → Int} {l : List (Nat × Nat)} {a : Nat × Nat} (ha : a ∈ l) (h : g a.1 a.2 = 0) : valL g l = 0 := by
  induction l with
  | nil => simp at ha
  | cons b l ih =>
    simp only [valL]
    rw [List.mem_cons] at ha
    rcases ha with ha | ha
    · subst ha; rw [h, Int.zero_mul]
    · rw [ih ha, Int.mul_zero]
set_option maxRecDepth 100000 in
set_option maxHeartbeats 2000000 in
theorem divide_Moebius (n : Nat) (w : World) (h1 : 1 ≤ n) (hn : n ≤ 1000000) :
    Calls Try.prog 25 #[.int .i64 n] w fun e w' => e = .returned (.tuple #[.int .i64 (mu n), .int .i64 0]) ∧ Below w.heap.size w w' := by
  go_enter Try.func25, Try.ntmps25
  go_wp2_with fail
  refine (prime_Factor n w h1 hn).mono ?_
  rintro e w1 ⟨l, v, hF, hll, rfl, hown, hbel⟩
  obtain ⟨ao, cp, rfl, hR, hnone, hmx⟩ := own_reads hown
  have HF := Lib.hid hF
  have HR := Lib.hid hR
  have HB := Lib.hid hbel
  have HMU : Hid (mu n = valL muG l) := mult_eq hF
  obtain ⟨len, hlen⟩ : ∃ len, l.length = len := ⟨_, rfl⟩
  rw [hlen] at hll ⊢
  have HL := Lib.hid hlen
  clear hF hR hnone hmx hown hbel hlen
  go_wp2_with fail
  go_loopw [6, 19] (fun vo vi wr => ∃ (k : Nat) (o : Int), vi = .int .i64 k ∧ k ≤ len ∧ vo = .int .i64 o ∧ -1 ≤ o ∧ o ≤ 1 ∧ Hid (o = valL muG (l.take k)) ∧ Hid (Below w1.heap.size w1 wr)) (fun _ vi _ => len - (intOf vi).toNat)
  case atStart => exact ⟨0, 1, rfl, by omega, rfl, by omega, by omega, rfl, Below.refl _ _⟩
  case round =>
    obtain ⟨k, o, rfl, hk, rfl, ho1, ho2, hoe, hb⟩ := hrel
    by_cases hkl : k < len
    · obtain ⟨a, ha⟩ : ∃ a, l[k]? = some a := ⟨l[k]'(by rw [HL.out]; exact hkl), List.getElem?_eq_getElem _⟩
      have hma := List.mem_of_getElem? ha
      obtain ⟨P, N⟩ := a
      have hN1 := (HF.out.pr _ hma).2
      simp only at hN1
      have hc1 := powCells_get l k _ ha
      have hR2 := (HR.out).below hb.out
      obtain ⟨b, of, rfl, hcell1⟩ := hR2 _ _ hc1.1
      obtain ⟨b', of', hbo, hcell2⟩ := hR2 _ _ hc1.2
      simp only [Option.some.injEq, Addr.mk.injEq, and_true] at hbo
      obtain ⟨rfl, rfl⟩ := hbo
      have HT := Lib.hid (take_snoc2 l k _ ha)
      have hcell1' : wr.cell? ⟨b, of + k * 2, none⟩ = some (.int .i64 P) := hcell1
      have hcell2' : wr.cell? ⟨b, of + k * 2 + 1, none⟩ = some (.int .i64 N) := hcell2
      have HMA := Lib.hid hma
      clear hR2 hc1 ha hma hcell1 hcell2
      by_cases hN : N = 1
      · subst hN
        have hnew : Hid (-o = valL muG (l.take (k + 1))) := by
          show _ = _
          rw [HT.out, valL_append, ← hoe.out]
          simp [valL, muG]
        go_wp2_with fail
        go_roundw
        case rel => exact ⟨k + 1, -o, by go_num, by omega, by first | rfl | go_num, by omega, by omega, hnew, hb.out.trans ((Below.refl _ _).alloc hb.out.size _)⟩
        case measure => simp [intOf]; omega
      · have dN : decide ((1 : Int) < N) = true := by simp; omega
        have hz : Hid (mu n = 0) := by
          show _ = _
          rw [HMU.out]
          exact valL_zero HMA.out (by unfold muG; rw [if_neg hN])
        go_wp2_with fail
        go_ret2
        exact ⟨by rw [hz.out]; rfl, HB.out.trans (Below.mono (hb.out.trans ((Below.refl _ _).alloc hb.out.size _)) HB.out.size)⟩
    · have hfin : Hid (mu n = o) := by
        show _ = _
        rw [HMU.out, hoe.out, show k = l.length by rw [HL.out]; omega, List.take_length]
      go_wp2_with fail
      go_ret2
      exact ⟨by rw [hfin.out]; rfl, HB.out.trans (Below.mono hb.out HB.out.size)⟩
end Go.Proofs.Ytgdcmebhopjfaaa
namespace Go.Proofs.Ytgdcmebhopjfaaa
open Go.RowKit

set_option maxRecDepth 20000 in
set_option maxHeartbeats 400000 in
theorem indexFunc_err (fn : FuncId) (hfn : ∀ (x : Value) (W : World), (callFunc fn #[x]).run Try.prog W = .ok (.enter fn #[x]) W) (p : Int → Bool) (zs : List Int) (ao : Option Addr) (cap : Nat) (w : World) (hl : zs.length ≤ 9223372036854775807) (hR : Hid (Reads w ao (zs.map (Value.int .i64))))
    (hf : Hid (∀ x ∈ zs, ∀ n, Calls Try.prog fn #[.int .i64 x] (w.drewN n) fun e w' => e = .returned (.bool (p x)) ∧ ∃ m, w' = (w.drewN n).drewN m)) :
    Calls Try.prog 151 #[.slice ao zs.length cap, .func (.func fn) #[] #[]] w fun e w' => e = .returned (.int .i64 (idxI p zs)) ∧ ∃ n, w' = w.drewN n := by
  obtain ⟨len, hlen⟩ : ∃ n, zs.length = n := ⟨_, rfl⟩
  rw [hlen] at hl ⊢
  have HL := Lib.hid hlen
  clear hlen
  go_enter Try.func151, Try.ntmps151
  go_wp2_with fail
  go_loopw [8] (fun vi wr => ∃ k : Nat, vi = .int .i64 k ∧ k ≤ len ∧ Hid (∀ j y, j < k → zs[j]? = some y → p y = false) ∧ ∃ n, wr = w.drewN n) (fun vi _ => len - (intOf vi).toNat)
  case atStart => exact ⟨0, rfl, by omega, by intro j y hj; omega, 0, rfl⟩
  case round =>
    obtain ⟨k, rfl, hk, hno, n, rfl⟩ := hrel
    by_cases hkl : k < len
    · obtain ⟨x, hx⟩ : ∃ x, zs[k]? = some x := ⟨zs[k]'(by rw [HL.out]; exact hkl), List.getElem?_eq_getElem _⟩
      obtain ⟨b, o, rfl, hc⟩ := hR.out k (.int .i64 x) (by simp [hx])
      have HX := Lib.hid hx
      clear hx
      have hcall := Lib.hid (hf.out x (List.mem_of_getElem? HX.out))
      cases hp : p x with
      | true =>
        have HP := Lib.hid hp
        clear hp
        go_wp2_with fail
        refine (hcall.out n).mono ?_
        rw [HP.out]
        rintro e w' ⟨rfl, m, rfl⟩
        go_wp2
        go_ret
        exact ⟨ret_int (idxI_some HX.out HP.out hno.out).symm, _, rfl⟩
      | false =>
        have HP := Lib.hid hp
        clear hp
        go_wp2_with fail
        refine (hcall.out n).mono ?_
        rw [HP.out]
        rintro e w' ⟨rfl, m, rfl⟩
        go_wp2
        go_roundw
        case rel => exact ⟨k + 1, by go_num, by omega, by
          intro j y hj hy
          by_cases he : j = k
          · subst he; rw [HX.out] at hy; cases hy; exact HP.out
          · exact hno.out j y (by omega) hy, _, rfl⟩
        case measure => simp [intOf]; omega
    · obtain rfl : k = len := by omega
      go_wp2
      go_ret
      refine ⟨ret_int (idxI_none fun x hx => ?_).symm, _, rfl⟩
      obtain ⟨j, hj⟩ := List.getElem?_of_mem hx
      have := (List.getElem?_eq_some_iff.1 hj).1
      exact hno.out j x (by have := HL.out; omega) hj
set_option maxHeartbeats 400000 in
theorem containsFunc_err (fn : FuncId) (hfn : ∀ (x : Value) (W : World), (callFunc fn #[x]).run Try.prog W = .ok (.enter fn #[x]) W) (p : Int → Bool) (zs : List Int) (ao : Option Addr) (cap : Nat) (w : World) (hl : zs.length ≤ 9223372036854775807) (hR : Hid (Reads w ao (zs.map (Value.int .i64))))
    (hf : Hid (∀ x ∈ zs, ∀ n, Calls Try.prog fn #[.int .i64 x] (w.drewN n) fun e w' => e = .returned (.bool (p x)) ∧ ∃ m, w' = (w.drewN n).drewN m)) :
    Calls Try.prog 89 #[.slice ao zs.length cap, .func (.func fn) #[] #[]] w fun e w' => e = .returned (.bool (zs.any p)) ∧ ∃ n, w' = w.drewN n := by
  go_enter Try.func89, Try.ntmps89
  go_wp2_with (go_at_call 151; refine (indexFunc_err fn hfn p zs ao cap w hl hR hf).mono ?_; rintro e w' ⟨rfl, n, rfl⟩)
  go_ret
  exact ⟨ret_bool (idxI_nonneg p zs), _, rfl⟩
end Go.Proofs.Ytgdcmebhopjfaaa
namespace Go.Proofs.Ytgdcmebhopjfaaa

def xt (x : Nat) : Nat := if 255 < x * 2 then (x * 2) ^^^ 285 else x * 2
def gm : Nat → Nat → Nat → Nat → Nat
  | 0, _, _, o => o
  | f + 1, a, b, o => gm f (xt a) (b / 2) (if b % 2 = 1 then o ^^^ a else o)
/-- The product. -/
def gmul (a b : Nat) : Nat := gm 8 a b 0

theorem xor_lt256 {a b : Nat} (ha : a < 256) (hb : b < 256) : a ^^^ b < 256 := Nat.xor_lt_two_pow (n := 8) ha hb
theorem xt_lt {x : Nat} (h : x < 256) : xt x < 256 := by
  unfold xt
  split
  · rename_i h1
    have : (x * 2 ^^^ 285) < 512 := Nat.xor_lt_two_pow (n := 9) (by omega) (by omega)
    have h8 : (x * 2 ^^^ 285).testBit 8 = false := by
      rw [Nat.testBit_xor]
      have e1 : (x * 2).testBit 8 = true := by
        rw [Nat.testBit_eq_decide_div_mod_eq]; simp; omega
      rw [e1]; decide
    rw [Nat.testBit_eq_decide_div_mod_eq] at h8
    simp at h8; omega
  · omega
theorem xt_bit {x : Nat} (h : x < 256) : (255 < x * 2) ↔ x.testBit 7 = true := by
  rw [Nat.testBit_eq_decide_div_mod_eq]; simp; omega
theorem dbl_xor (x y : Nat) : (x ^^^ y) * 2 = x * 2 ^^^ y * 2 := by
  have h : ∀ z : Nat, z * 2 = z <<< 1 := fun z => by rw [Nat.shiftLeft_eq]
  rw [h, h, h, Nat.shiftLeft_xor_distrib]
theorem xor4 (a b c d : Nat) : (a ^^^ b) ^^^ (c ^^^ d) = (a ^^^ c) ^^^ (b ^^^ d) := by
  rw [Nat.xor_assoc, Nat.xor_assoc]; congr 1
  rw [← Nat.xor_assoc, ← Nat.xor_assoc, Nat.xor_comm b c]
theorem xt_eq {x : Nat} (h : x < 256) : xt x = if x.testBit 7 = true then x * 2 ^^^ 285 else x * 2 := by
  unfold xt
  simp only [xt_bit h]
theorem xt_xor {x y : Nat} (hx : x < 256) (hy : y < 256) : xt (x ^^^ y) = xt x ^^^ xt y := by
  rw [xt_eq hx, xt_eq hy, xt_eq (xor_lt256 hx hy), Nat.testBit_xor, dbl_xor]
  generalize x * 2 = X
  generalize y * 2 = Y
  cases x.testBit 7 <;> cases y.testBit 7 <;> simp
  · rw [Nat.xor_assoc]
  · rw [Nat.xor_assoc, Nat.xor_assoc, Nat.xor_comm 285]
  · rw [xor4, Nat.xor_self, Nat.xor_zero]
theorem gm_lt (f a b o : Nat) (ha : a < 256) (ho : o < 256) : gm f a b o < 256 := by
  induction f generalizing a b o with
  | zero => exact ho
  | succ f ih =>
    simp only [gm]
    refine ih _ _ _ (xt_lt ha) ?_
    split
    · exact xor_lt256 ho ha
    · exact ho
theorem gmul_lt {a b : Nat} (ha : a < 256) : gmul a b < 256 := gm_lt 8 a b 0 ha (by omega)
theorem gm_left (f a a' b o o' : Nat) (ha : a < 256) (ha' : a' < 256) : gm f (a ^^^ a') b (o ^^^ o') = gm f a b o ^^^ gm f a' b o' := by
  induction f generalizing a a' b o o' with
  | zero => rfl
  | succ f ih =>
    simp only [gm]
    rw [xt_xor ha ha']
    split
    · rw [xor4, ih _ _ _ _ _ (xt_lt ha) (xt_lt ha')]
    · rw [ih _ _ _ _ _ (xt_lt ha) (xt_lt ha')]
theorem gmul_left {a a' : Nat} (b : Nat) (ha : a < 256) (ha' : a' < 256) : gmul (a ^^^ a') b = gmul a b ^^^ gmul a' b := by
  have := gm_left 8 a a' b 0 0 ha ha'
  rwa [Nat.xor_self] at this
theorem mod2_xor (b c : Nat) : (b ^^^ c) % 2 = (b % 2 ^^^ c % 2) := Nat.xor_mod_two_pow (n := 1)
theorem div2_xor (b c : Nat) : (b ^^^ c) / 2 = (b / 2 ^^^ c / 2) := Nat.xor_div_two
theorem gm_right (f a b b' o o' : Nat) : gm f a (b ^^^ b') (o ^^^ o') = gm f a b o ^^^ gm f a b' o' := by
  induction f generalizing a b b' o o' with
  | zero => rfl
  | succ f ih =>
    simp only [gm]
    rw [div2_xor, mod2_xor, ← ih]
    congr 1
    rcases Nat.mod_two_eq_zero_or_one b with h1 | h1 <;> rcases Nat.mod_two_eq_zero_or_one b' with h2 | h2 <;> simp [h1, h2]
    · rw [Nat.xor_assoc]
    · rw [Nat.xor_assoc, Nat.xor_assoc, Nat.xor_comm a]
    · rw [xor4, Nat.xor_self, Nat.xor_zero]
theorem gmul_right (a b b' : Nat) : gmul a (b ^^^ b') = gmul a b ^^^ gmul a b' := by
  have := gm_right 8 a b b' 0 0
  rwa [Nat.xor_self] at this

/-- What is said of the powers of two is said of all bytes. -/
theorem lin_ext (f g : Nat → Nat) (hf : ∀ x y, x < 256 → y < 256 → f (x ^^^ y) = f x ^^^ f y) (hg : ∀ x y, x < 256 → y < 256 → g (x ^^^ y) = g x ^^^ g y)
    (h : ∀ k, k < 8 → f (2 ^ k) = g (2 ^ k)) : ∀ x, x < 256 → f x = g x := by
  have f0 : f 0 = 0 := by have := hf 0 0 (by omega) (by omega); simpa using this
  have g0 : g 0 = 0 := by have := hg 0 0 (by omega) (by omega); simpa using this
  have H : ∀ m, m ≤ 8 → ∀ x, x < 2 ^ m → f x = g x := by
    intro m
    induction m with
    | zero => intro _ x hx; obtain rfl : x = 0 := by simpa using hx
              rw [f0, g0]
    | succ m ih =>
      intro hm x hx
      have hp : 2 ^ m ≤ 128 := Nat.pow_le_pow_right (n := 2) (by omega) (show m ≤ 7 by omega)
      by_cases hxm : x < 2 ^ m
      · exact ih (by omega) x hxm
      · have hr : x ^^^ 2 ^ m < 2 ^ m := by
          have h1 : x.testBit m = true := by
            rw [Nat.testBit_eq_decide_div_mod_eq]
            have : x / 2 ^ m = 1 := by
              rw [Nat.pow_succ] at hx
              exact Nat.div_eq_of_lt_le (by omega) (by omega)
            simp [this]
          refine Nat.lt_pow_two_of_testBit _ fun i hi => ?_
          rw [Nat.testBit_xor]
          by_cases him : i = m
          · subst him; rw [h1, Nat.testBit_two_pow_self]; rfl
          · have h2 : x.testBit i = false := Nat.testBit_lt_two_pow (Nat.lt_of_lt_of_le hx (Nat.pow_le_pow_right (by omega) (by omega)))
            rw [h2, Nat.testBit_two_pow_of_ne (by omega)]; rfl
        have e : x = (x ^^^ 2 ^ m) ^^^ 2 ^ m := by rw [Nat.xor_assoc, Nat.xor_self, Nat.xor_zero]
        rw [e, hf _ _ (by omega) (by omega), hg _ _ (by omega) (by omega), ih (by omega) _ hr, h m (by omega)]
  exact fun x hx => H 8 (Nat.le_refl _) x hx

theorem gmul_comm {a b : Nat} (ha : a < 256) (hb : b < 256) : gmul a b = gmul b a := by
  refine lin_ext (fun x => gmul x b) (fun x => gmul b x) (fun x y hx hy => gmul_left b hx hy) (fun x y _ _ => gmul_right b x y) (fun k hk => ?_) a ha
  refine lin_ext (fun y => gmul (2 ^ k) y) (fun y => gmul y (2 ^ k)) (fun x y _ _ => gmul_right _ x y) (fun x y hx hy => gmul_left _ hx hy) (fun j hj => ?_) b hb
  have H : ∀ k : Fin 8, ∀ j : Fin 8, gmul (2 ^ k.val) (2 ^ j.val) = gmul (2 ^ j.val) (2 ^ k.val) := by decide +kernel
  exact H ⟨k, hk⟩ ⟨j, hj⟩
theorem gmul_assoc {a b c : Nat} (ha : a < 256) (hb : b < 256) (hc : c < 256) : gmul (gmul a b) c = gmul a (gmul b c) := by
  have p8 : ∀ k, k < 8 → 2 ^ k < 256 := fun k hk => by have := Nat.pow_lt_pow_right (a := 2) (by omega) hk; omega
  refine lin_ext (fun x => gmul (gmul x b) c) (fun x => gmul x (gmul b c)) (fun x y hx hy => ?_) (fun x y hx hy => gmul_left _ hx hy) (fun k hk => ?_) a ha
  · show gmul (gmul (x ^^^ y) b) c = _
    rw [gmul_left b hx hy, gmul_left c (gmul_lt hx) (gmul_lt hy)]
  refine lin_ext (fun y => gmul (gmul (2 ^ k) y) c) (fun y => gmul (2 ^ k) (gmul y c)) (fun x y _ _ => ?_) (fun x y hx hy => ?_) (fun j hj => ?_) b hb
  · show gmul (gmul (2 ^ k) (x ^^^ y)) c = _
    rw [gmul_right, gmul_left c (gmul_lt (p8 k hk)) (gmul_lt (p8 k hk))]
  · show gmul (2 ^ k) (gmul (x ^^^ y) c) = _
    rw [gmul_left c hx hy, gmul_right]
  refine lin_ext (fun z => gmul (gmul (2 ^ k) (2 ^ j)) z) (fun z => gmul (2 ^ k) (gmul (2 ^ j) z)) (fun x y _ _ => gmul_right _ x y) (fun x y _ _ => ?_) (fun i hi => ?_) c hc
  · show gmul (2 ^ k) (gmul (2 ^ j) (x ^^^ y)) = _
    rw [gmul_right, gmul_right]
  have H : ∀ k : Fin 8, ∀ j : Fin 8, ∀ i : Fin 8, gmul (gmul (2 ^ k.val) (2 ^ j.val)) (2 ^ i.val) = gmul (2 ^ k.val) (gmul (2 ^ j.val) (2 ^ i.val)) := by decide +kernel
  exact H ⟨k, hk⟩ ⟨j, hj⟩ ⟨i, hi⟩
theorem gmul_zero (a : Nat) : gmul a 0 = 0 := by have := gmul_right a 0 0; simpa using this
theorem zero_gmul (b : Nat) : gmul 0 b = 0 := by have := gmul_left b (a := 0) (a' := 0) (by omega) (by omega); simpa using this
theorem gmul_one {a : Nat} (_ha : a < 256) : gmul a 1 = a := by simp [gmul, gm]
theorem one_gmul {a : Nat} (ha : a < 256) : gmul 1 a = a := by rw [gmul_comm (by omega) ha, gmul_one ha]

/-- The inverse: the power 254. -/
def ginv (a : Nat) : Nat :=
  let a2 := gmul a a; let a4 := gmul a2 a2; let a8 := gmul a4 a4; let a16 := gmul a8 a8; let a32 := gmul a16 a16; let a64 := gmul a32 a32; let a128 := gmul a64 a64
  gmul (gmul (gmul (gmul (gmul (gmul a2 a4) a8) a16) a32) a64) a128
theorem ginv_lt {a : Nat} (ha : a < 256) : ginv a < 256 := by
  unfold ginv
  exact gmul_lt (gmul_lt (gmul_lt (gmul_lt (gmul_lt (gmul_lt (gmul_lt ha))))))
theorem gmul_ginv {a : Nat} (ha : a < 256) (h0 : a ≠ 0) : gmul a (ginv a) = 1 := by
  have H : ∀ a : Fin 256, a.val ≠ 0 → gmul a.val (ginv a.val) = 1 := by decide +kernel
  exact H ⟨a, ha⟩ h0
theorem gmul_eq_zero {a b : Nat} (ha : a < 256) (hb : b < 256) : gmul a b = 0 ↔ a = 0 ∨ b = 0 := by
  constructor
  · intro h
    by_cases h0 : a = 0
    · exact .inl h0
    · right
      have h1 : gmul (ginv a) (gmul a b) = b := by
        rw [← gmul_assoc (ginv_lt ha) ha hb, gmul_comm (ginv_lt ha) ha, gmul_ginv ha h0, one_gmul hb]
      rw [h, gmul_zero] at h1; exact h1.symm
  · rintro (h | h) <;> subst h
    · exact zero_gmul _
    · exact gmul_zero _
attribute [irreducible] gmul
end Go.Proofs.Ytgdcmebhopjfaaa
namespace Go.Proofs.Ytgdcmebhopjfaaa

def gpow (a : Nat) : Nat → Nat
  | 0 => 1
  | n + 1 => gmul (gpow a n) a
theorem gpow_lt {a : Nat} (n : Nat) : gpow a n < 256 := by
  induction n with
  | zero => simp [gpow]
  | succ n ih => exact gmul_lt ih
theorem gpow_one {a : Nat} (ha : a < 256) : gpow a 1 = a := by simp only [gpow]; exact one_gmul ha
theorem gpow_add {a : Nat} (ha : a < 256) (m n : Nat) : gpow a (m + n) = gmul (gpow a m) (gpow a n) := by
  induction n with
  | zero => simp only [gpow, Nat.add_zero]; rw [gmul_one (gpow_lt m)]
  | succ n ih => rw [← Nat.add_assoc]; simp only [gpow]; rw [ih, gmul_assoc (gpow_lt m) (gpow_lt n) ha]
theorem gpow_sq {a : Nat} (ha : a < 256) (n : Nat) : gpow (gmul a a) n = gpow a (2 * n) := by
  induction n with
  | zero => rfl
  | succ n ih =>
    have e : 2 * (n + 1) = 2 * n + 2 := by omega
    rw [e, gpow_add ha]
    have h2 : gpow a 2 = gmul a a := by simp only [gpow]; rw [one_gmul ha]
    simp only [gpow] at h2 ⊢
    rw [ih, h2]
theorem ginv_pow {a : Nat} (ha : a < 256) : ginv a = gpow a 254 := by
  have h2 : gmul a a = gpow a 2 := by simp only [gpow]; rw [one_gmul ha]
  have hs : ∀ n, gmul (gpow a n) (gpow a n) = gpow a (n + n) := fun n => (gpow_add ha n n).symm
  unfold ginv
  simp only [h2, hs, ← gpow_add ha]
theorem gpow_255 {a : Nat} (ha : a < 256) (h0 : a ≠ 0) : gpow a 255 = 1 := by
  show gmul (gpow a 254) a = 1
  rw [← ginv_pow ha, gmul_comm (ginv_lt ha) ha, gmul_ginv ha h0]
theorem gpow_zero_succ (n : Nat) : gpow 0 (n + 1) = 0 := gmul_zero _
theorem gpow_period {a : Nat} (ha : a < 256) (n : Nat) (hn : 1 ≤ n) : gpow a (n + 255) = gpow a n := by
  by_cases h0 : a = 0
  · subst h0
    obtain ⟨m, rfl⟩ : ∃ m, n = m + 1 := ⟨n - 1, by omega⟩
    rw [show m + 1 + 255 = (m + 255) + 1 by omega, gpow_zero_succ, gpow_zero_succ]
  · rw [gpow_add ha, gpow_255 ha h0, gmul_one (gpow_lt n)]
theorem gpow_red {a : Nat} (ha : a < 256) (n : Nat) (hn : 1 ≤ n) : gpow a ((n - 1) % 255 + 1) = gpow a n := by
  have H : ∀ q r, gpow a (r + 1 + 255 * q) = gpow a (r + 1) := by
    intro q r
    induction q with
    | zero => rfl
    | succ q ih => rw [show r + 1 + 255 * (q + 1) = (r + 1 + 255 * q) + 255 by omega, gpow_period ha _ (by omega), ih]
  have e : n = (n - 1) % 255 + 1 + 255 * ((n - 1) / 255) := by omega
  conv => rhs; rw [e]
  rw [H]

def powList : Nat → Nat → List Nat
  | 0, _ => []
  | f + 1, x => x :: powList f (xt x)
set_option maxRecDepth 100000 in
theorem powList_eq : powList 255 1 = [1, 2, 4, 8, 16, 32, 64, 128, 29, 58, 116, 232, 205, 135, 19, 38, 76, 152, 45, 90, 180, 117, 234, 201, 143, 3, 6, 12, 24, 48, 96, 192, 157, 39, 78, 156, 37, 74, 148, 53, 106, 212, 181, 119, 238, 193, 159, 35, 70, 140, 5, 10, 20, 40, 80, 160, 93, 186, 105, 210, 185, 111, 222, 161, 95, 190, 97, 194, 153, 47, 94, 188, 101, 202, 137, 15, 30, 60, 120, 240, 253, 231, 211, 187, 107, 214, 177, 127, 254, 225, 223, 163, 91, 182, 113, 226, 217, 175, 67, 134, 17, 34, 68, 136, 13, 26, 52, 104, 208, 189, 103, 206, 129, 31, 62, 124, 248, 237, 199, 147, 59, 118, 236, 197, 151, 51, 102, 204, 133, 23, 46, 92, 184, 109, 218, 169, 79, 158, 33, 66, 132, 21, 42, 84, 168, 77, 154, 41, 82, 164, 85, 170, 73, 146, 57, 114, 228, 213, 183, 115, 230, 209, 191, 99, 198, 145, 63, 126, 252, 229, 215, 179, 123, 246, 241, 255, 227, 219, 171, 75, 150, 49, 98, 196, 149, 55, 110, 220, 165, 87, 174, 65, 130, 25, 50, 100, 200, 141, 7, 14, 28, 56, 112, 224, 221, 167, 83, 166, 81, 162, 89, 178, 121, 242, 249, 239, 195, 155, 43, 86, 172, 69, 138, 9, 18, 36, 72, 144, 61, 122, 244, 245, 247, 243, 251, 235, 203, 139, 11, 22, 44, 88, 176, 125, 250, 233, 207, 131, 27, 54, 108, 216, 173, 71, 142] := by decide +kernel
theorem gmul_two {x : Nat} (h : x < 256) : gmul x 2 = xt x := by simp [gmul, gm]
theorem powList_get (f x k : Nat) (hk : k < f) (hx : x < 256) : (powList f x)[k]? = some (gmul x (gpow 2 k)) := by
  induction f generalizing x k with
  | zero => omega
  | succ f ih =>
    cases k with
    | zero => simp [powList, gpow, gmul_one hx]
    | succ k =>
      simp only [powList, List.getElem?_cons_succ]
      have h1 : gpow 2 (k + 1) = gmul (gpow 2 k) 2 := rfl
      have h2 : gmul (xt x) (gpow 2 k) = gmul x (gpow 2 (k + 1)) := by
        rw [h1, ← gmul_two hx, gmul_assoc hx (show 2 < 256 by omega) (gpow_lt k), gmul_comm (show 2 < 256 by omega) (gpow_lt k)]
      rw [ih _ _ (by omega) (xt_lt hx), h2]
theorem powList_length (f x : Nat) : (powList f x).length = f := by
  induction f generalizing x with
  | zero => rfl
  | succ f ih => simp [powList, ih]
set_option maxRecDepth 100000 in
theorem powList_all : ∀ a : Fin 256, a.val ≠ 0 → (powList 255 1).contains a.val = true := by
  rw [powList_eq]; decide +kernel
theorem log_exists {a : Nat} (ha : a < 256) (h0 : a ≠ 0) : ∃ k, k < 255 ∧ gpow 2 k = a := by
  have h1 := powList_all ⟨a, ha⟩ h0
  simp only [List.contains_iff_mem] at h1
  obtain ⟨k, hk⟩ := List.getElem?_of_mem h1
  have hl : (powList 255 1).length = 255 := powList_length _ _
  have hk2 : k < 255 := by have := (List.getElem?_eq_some_iff.1 hk).1; omega
  rw [powList_get 255 1 k hk2 (by omega), one_gmul (gpow_lt k)] at hk
  exact ⟨k, hk2, by simpa using hk⟩
/-- The logarithm to the base 2: the first exponent. -/
noncomputable def glog (a : Nat) : Nat := Classical.epsilon fun k => gpow 2 k = a ∧ ∀ j, j < k → gpow 2 j ≠ a
theorem first_exists {p : Nat → Prop} {k : Nat} (h : p k) : ∃ m, m ≤ k ∧ p m ∧ ∀ j, j < m → ¬ p j := by
  induction k using Nat.strongRecOn with
  | _ k ih =>
    by_cases hh : ∃ j, j < k ∧ p j
    · obtain ⟨j, hj, hp⟩ := hh
      obtain ⟨m, hm, h2⟩ := ih j hj hp
      exact ⟨m, by omega, h2⟩
    · exact ⟨k, Nat.le_refl _, h, fun j hj hp => hh ⟨j, hj, hp⟩⟩
theorem glog_spec {a : Nat} (ha : a < 256) (h0 : a ≠ 0) : glog a < 255 ∧ gpow 2 (glog a) = a ∧ ∀ j, j < glog a → gpow 2 j ≠ a := by
  obtain ⟨k, hk, he⟩ := log_exists ha h0
  obtain ⟨m, hm, h1, h2⟩ := first_exists (p := fun k => gpow 2 k = a) he
  have hs := Classical.epsilon_spec (p := fun k => gpow 2 k = a ∧ ∀ j, j < k → gpow 2 j ≠ a) ⟨m, h1, h2⟩
  refine ⟨?_, hs.1, hs.2⟩
  rcases Nat.lt_or_ge (glog a) 255 with h3 | h3
  · exact h3
  · exact absurd he (hs.2 k (Nat.lt_of_lt_of_le hk h3))

/-! ### The reference's product -/
def cmulN : Nat → Nat → Nat → Nat
  | 0, _, _ => 0
  | i + 1, a, b => cmulN i a b ^^^ (a / 2 ^ i % 2 * b) * 2 ^ i
def redN : Nat → Nat → Nat
  | 0, x => x
  | j + 1, x => redN j (if x / 2 ^ (j + 8) % 2 = 1 then x ^^^ 285 * 2 ^ j else x)
def timesN (a b : Nat) : Nat := redN 7 (cmulN 8 a b) % 256
theorem mul_pow_xor (x y i : Nat) : (x ^^^ y) * 2 ^ i = x * 2 ^ i ^^^ y * 2 ^ i := by
  rw [← Nat.shiftLeft_eq, ← Nat.shiftLeft_eq, ← Nat.shiftLeft_eq, Nat.shiftLeft_xor_distrib]
theorem div_pow_xor (x y i : Nat) : (x ^^^ y) / 2 ^ i = x / 2 ^ i ^^^ y / 2 ^ i := by
  rw [← Nat.shiftRight_eq_div_pow, ← Nat.shiftRight_eq_div_pow, ← Nat.shiftRight_eq_div_pow, Nat.shiftRight_xor_distrib]
theorem bit_xor (x y i : Nat) : (x ^^^ y) / 2 ^ i % 2 = (x / 2 ^ i % 2 ^^^ y / 2 ^ i % 2) := by rw [div_pow_xor, mod2_xor]
theorem cmulN_right (i a b b' : Nat) : cmulN i a (b ^^^ b') = cmulN i a b ^^^ cmulN i a b' := by
  induction i with
  | zero => simp [cmulN]
  | succ i ih =>
    simp only [cmulN]
    rw [ih, xor4]
    congr 1
    rcases Nat.mod_two_eq_zero_or_one (a / 2 ^ i) with h | h <;> simp [h, mul_pow_xor]
theorem cmulN_left (i a a' b : Nat) : cmulN i (a ^^^ a') b = cmulN i a b ^^^ cmulN i a' b := by
  induction i with
  | zero => simp [cmulN]
  | succ i ih =>
    simp only [cmulN]
    rw [ih, xor4, bit_xor]
    congr 1
    rcases Nat.mod_two_eq_zero_or_one (a / 2 ^ i) with h | h <;> rcases Nat.mod_two_eq_zero_or_one (a' / 2 ^ i) with h' | h' <;> simp [h, h']
theorem redN_xor (j x y : Nat) : redN j (x ^^^ y) = redN j x ^^^ redN j y := by
  induction j generalizing x y with
  | zero => rfl
  | succ j ih =>
    simp only [redN]
    rw [← ih, bit_xor]
    congr 1
    generalize 285 * 2 ^ j = c
    rcases Nat.mod_two_eq_zero_or_one (x / 2 ^ (j + 8)) with h | h <;> rcases Nat.mod_two_eq_zero_or_one (y / 2 ^ (j + 8)) with h' | h' <;> simp [h, h']
    · rw [Nat.xor_assoc]
    · rw [Nat.xor_assoc, Nat.xor_assoc, Nat.xor_comm c]
    · rw [xor4, Nat.xor_self, Nat.xor_zero]
theorem timesN_right (a b b' : Nat) : timesN a (b ^^^ b') = timesN a b ^^^ timesN a b' := by
  unfold timesN; rw [cmulN_right, redN_xor, Nat.xor_mod_two_pow (n := 8)]
theorem timesN_left (a a' b : Nat) : timesN (a ^^^ a') b = timesN a b ^^^ timesN a' b := by
  unfold timesN; rw [cmulN_left, redN_xor, Nat.xor_mod_two_pow (n := 8)]
theorem timesN_eq {a b : Nat} (ha : a < 256) (hb : b < 256) : timesN a b = gmul a b := by
  refine lin_ext (fun x => timesN x b) (fun x => gmul x b) (fun x y _ _ => timesN_left x y b) (fun x y hx hy => gmul_left b hx hy) (fun k hk => ?_) a ha
  refine lin_ext (fun y => timesN (2 ^ k) y) (fun y => gmul (2 ^ k) y) (fun x y _ _ => timesN_right _ x y) (fun x y _ _ => gmul_right _ x y) (fun j hj => ?_) b hb
  have H : ∀ k : Fin 8, ∀ j : Fin 8, timesN (2 ^ k.val) (2 ^ j.val) = gmul (2 ^ k.val) (2 ^ j.val) := by decide +kernel
  exact H ⟨k, hk⟩ ⟨j, hj⟩
end Go.Proofs.Ytgdcmebhopjfaaa
namespace Go.Proofs.Ytgdcmebhopjfaaa
open Go.RowKit

theorem gm_zero (f a o : Nat) : gm f a 0 o = o := by
  induction f generalizing a with
  | zero => rfl
  | succ f ih => simp only [gm]; exact ih _
theorem ret_u8 {a b : Nat} (h : a = b) : Ending.returned (.int .u8 (a : Int)) = .returned (.int .u8 (b : Int)) := by rw [h]

theorem u8_and_one (a : Nat) (ha : a < 256) : bits .and .u8 (a : Int) 1 = ((a % 2 : Nat) : Int) := by
  have := u8_and_nat a 1 ha (by omega)
  rw [Nat.and_one_is_mod] at this
  exact this
set_option maxHeartbeats 1000000 in
theorem field_Mul (a b : Nat) (w : World) (ha : a < 256) (hb : b < 256) :
    Calls Try.prog 99 #[.int .u8 a, .int .u8 b] w fun e w' => e = .returned (.int .u8 (gmul a b : Nat)) ∧ w = w' := by
  go_enter Try.func99, Try.ntmps99
  go_wp2_with fail
  go_loop [1, 5, 6] (fun vb vx vo => ∃ y x o f : Nat, vb = .int .u8 y ∧ vx = .int .i64 x ∧ vo = .int .i64 o ∧ y < 256 ∧ x < 256 ∧ o < 256 ∧ Hid (y < 2 ^ f) ∧ Hid (gm f x y o = gmul a b)) (fun vb _ _ => (intOf vb).toNat)
  case atStart => exact ⟨b, a, 0, 8, rfl, rfl, rfl, hb, ha, by omega, hb, by show _ = _; unfold gmul; rfl⟩
  case round =>
    obtain ⟨y, x, o, f, rfl, rfl, rfl, hy, hx, ho, hf, hg⟩ := hrel
    by_cases h0 : y = 0
    · subst h0
      have hR : Hid (o = gmul a b) := by have := hg.out; rw [gm_zero] at this; exact this
      go_wp2_with fail
      go_ret
      exact ⟨ret_u8 hR.out, rfl⟩
    · have hx1 := i64_xor_nat o x (by omega) (by omega)
      have hx2 : bits .xor .i64 ((x : Int) * 2) 285 = ((x * 2 ^^^ 285 : Nat) : Int) := i64_xor_nat (x * 2) 285 (by omega) (by omega)
      obtain ⟨f, rfl⟩ : ∃ f', f = f' + 1 := by
        cases f with
        | zero => have := hf.out; simp at this; omega
        | succ f => exact ⟨f, rfl⟩
      have hf2 : Hid (y / 2 < 2 ^ f) := by have := hf.out; rw [Nat.pow_succ] at this; show _ < _; omega
      have hox := xor_lt256 ho hx
      have hg2 : Hid (gm f (xt x) (y / 2) (if y % 2 = 1 then o ^^^ x else o) = gmul a b) := hg.out
      have hxl := xt_lt hx
      have hlt : Hid (y / 2 < y) := Nat.div_lt_self (by omega) (by omega)
      have hpar : (y % 2 = 1 ∧ (bits .and .u8 (y : Int) 1 == 1) = true) ∨ (y % 2 = 0 ∧ (bits .and .u8 (y : Int) 1 == 1) = false) := by
        rw [u8_and_one y hy]
        rcases Nat.mod_two_eq_zero_or_one y with h | h <;> simp [h]
      by_cases h2 : 255 < x * 2
      · have hxt : Hid (x * 2 ^^^ 285 = xt x) := by show _ = _; unfold xt; rw [if_pos h2]
        rcases hpar with ⟨hp, hpb⟩ | ⟨hp, hpb⟩
        · have hg3 : Hid (gm f (xt x) (y / 2) (o ^^^ x) = gmul a b) := by have := hg2.out; rw [if_pos hp] at this; exact this
          clear hp
          go_wp2_with fail
          go_round
          case rel => exact ⟨y / 2, xt x, o ^^^ x, f, by go_num, by rw [← hxt.out], rfl, by omega, hxl, hox, hf2, hg3⟩
          case measure => have := hlt.out; simp [intOf]; omega
        · have hg3 : Hid (gm f (xt x) (y / 2) o = gmul a b) := by have := hg2.out; rw [if_neg (by omega)] at this; exact this
          clear hp
          go_wp2_with fail
          go_round
          case rel => exact ⟨y / 2, xt x, o, f, by go_num, by rw [← hxt.out], rfl, by omega, hxl, ho, hf2, hg3⟩
          case measure => have := hlt.out; simp [intOf]; omega
      · have hxt : Hid (x * 2 = xt x) := by show _ = _; unfold xt; rw [if_neg h2]
        rcases hpar with ⟨hp, hpb⟩ | ⟨hp, hpb⟩
        · have hg3 : Hid (gm f (xt x) (y / 2) (o ^^^ x) = gmul a b) := by have := hg2.out; rw [if_pos hp] at this; exact this
          clear hp
          go_wp2_with fail
          go_round
          case rel => exact ⟨y / 2, xt x, o ^^^ x, f, by go_num, by rw [← hxt.out]; rfl, rfl, by omega, hxl, hox, hf2, hg3⟩
          case measure => have := hlt.out; simp [intOf]; omega
        · have hg3 : Hid (gm f (xt x) (y / 2) o = gmul a b) := by have := hg2.out; rw [if_neg (by omega)] at this; exact this
          clear hp
          go_wp2_with fail
          go_round
          case rel => exact ⟨y / 2, xt x, o, f, by go_num, by rw [← hxt.out]; rfl, rfl, by omega, hxl, ho, hf2, hg3⟩
          case measure => have := hlt.out; simp [intOf]; omega

set_option maxHeartbeats 1000000 in
theorem field_Pow (a n : Nat) (w : World) (ha : a < 256) (hn : n < 9223372036854775808) :
    Calls Try.prog 115 #[.int .u8 a, .int .i64 n] w fun e w' => e = .returned (.tuple #[.int .u8 (gpow a n : Nat), .int .i64 0]) ∧ w = w' := by
  go_enter Try.func115, Try.ntmps115
  go_wp2_with fail
  go_loop [0, 1, 6] (fun va vn vo => ∃ x m o : Nat, va = .int .u8 x ∧ vn = .int .i64 m ∧ vo = .int .u8 o ∧ x < 256 ∧ m < 9223372036854775808 ∧ o < 256 ∧ Hid (gmul o (gpow x m) = gpow a n)) (fun _ vn _ => (intOf vn).toNat)
  case atStart => exact ⟨a, n, 1, rfl, rfl, rfl, ha, hn, by omega, by show _ = _; rw [one_gmul (gpow_lt n)]⟩
  case round =>
    obtain ⟨x, m, o, rfl, rfl, rfl, hx, hm, ho, hg⟩ := hrel
    by_cases h0 : m = 0
    · subst h0
      have hR : Hid (o = gpow a n) := by have := hg.out; simp only [gpow] at this; rw [gmul_one ho] at this; exact this
      go_wp2_with fail
      go_ret2
      exact ⟨by rw [← hR.out]; rfl, rfl⟩
    · have hpar : (m % 2 = 1 ∧ (bits .and .i64 (m : Int) 1 == 1) = true) ∨ (m % 2 = 0 ∧ (bits .and .i64 (m : Int) 1 == 1) = false) := by
        rw [i64_and_one m hm]
        rcases Nat.mod_two_eq_zero_or_one m with h | h <;> simp [h]
      have hlt : Hid (m / 2 < m) := Nat.div_lt_self (by omega) (by omega)
      have hsq : Hid (gpow (gmul x x) (m / 2) = gpow x (2 * (m / 2))) := gpow_sq hx _
      have hxx : gmul x x < 256 := gmul_lt hx
      rcases hpar with ⟨hp, hpb⟩ | ⟨hp, hpb⟩
      · have hg2 : Hid (gmul (gmul o x) (gpow (gmul x x) (m / 2)) = gpow a n) := by
          show _ = _
          rw [hsq.out, ← hg.out, gmul_assoc ho hx (gpow_lt _)]
          congr 1
          rw [gmul_comm hx (gpow_lt _)]
          show gpow x (2 * (m / 2) + 1) = _
          congr 1; omega
        clear hp
        have hox : gmul o x < 256 := gmul_lt ho
        go_wp2_with fail
        refine (field_Mul o x _ ho hx).mono ?_; rintro e w' ⟨rfl, rfl⟩
        go_wp2_with fail
        refine (field_Mul x x _ hx hx).mono ?_; rintro e w' ⟨rfl, rfl⟩
        go_wp2_with fail
        go_round
        case rel => exact ⟨gmul x x, m / 2, gmul o x, rfl, by go_num, rfl, hxx, by omega, hox, hg2⟩
        case measure => have := hlt.out; simp [intOf]; omega
      · have hg2 : Hid (gmul o (gpow (gmul x x) (m / 2)) = gpow a n) := by
          show _ = _
          rw [hsq.out, ← hg.out]
          congr 2; omega
        clear hp
        go_wp2_with fail
        refine (field_Mul x x _ hx hx).mono ?_; rintro e w' ⟨rfl, rfl⟩
        go_wp2_with fail
        go_round
        case rel => exact ⟨gmul x x, m / 2, o, rfl, by go_num, rfl, hxx, by omega, ho, hg2⟩
        case measure => have := hlt.out; simp [intOf]; omega
set_option maxHeartbeats 400000 in
theorem field_Pow_bad (a n : Int) (w : World) (hn : n < 0) :
    Calls Try.prog 115 #[.int .u8 a, .int .i64 n] w fun e w' => e = .returned (.tuple #[.int .u8 0, .int .i64 1]) ∧ w = w' := by
  go_enter Try.func115, Try.ntmps115
  go_wp2_with fail
  go_ret2
  exact ⟨rfl, rfl⟩

set_option maxHeartbeats 400000 in
theorem field_Inv (a : Nat) (w : World) (ha : a < 256) (h0 : a ≠ 0) :
    Calls Try.prog 101 #[.int .u8 a] w fun e w' => e = .returned (.tuple #[.int .u8 (ginv a : Nat), .int .i64 0]) ∧ w = w' := by
  have hz : ((a : Int) == 0) = false := by simp; omega
  have hi : Hid (ginv a = gpow a 254) := ginv_pow ha
  have c := Lib.hid (field_Pow a 254 w ha (by omega))
  go_enter Try.func101, Try.ntmps101
  go_wp2_with (go_at_call 115; refine (c.out).mono ?_; rintro e w' ⟨rfl, rfl⟩)
  go_ret2
  exact ⟨by rw [hi.out]; rfl, rfl⟩
set_option maxHeartbeats 400000 in
theorem field_Inv_zero (w : World) :
    Calls Try.prog 101 #[.int .u8 0] w fun e w' => e = .returned (.tuple #[.int .u8 0, .int .i64 5]) ∧ w = w' := by
  go_enter Try.func101, Try.ntmps101
  go_wp2_with fail
  go_ret2
  exact ⟨rfl, rfl⟩

end Go.Proofs.Ytgdcmebhopjfaaa
namespace Go.Proofs.Ytgdcmebhopjfaaa
open Go.RowKit

theorem mod_next (b k : Nat) : b % 2 ^ k ^^^ (b / 2 ^ k % 2) * 2 ^ k = b % 2 ^ (k + 1) := by
  apply Nat.eq_of_testBit_eq
  intro j
  rw [Nat.testBit_xor, Nat.testBit_mod_two_pow, Nat.testBit_mod_two_pow]
  have hb : b.testBit k = decide (b / 2 ^ k % 2 = 1) := Nat.testBit_eq_decide_div_mod_eq
  rcases Nat.mod_two_eq_zero_or_one (b / 2 ^ k) with h | h
  · rw [h] at hb ⊢
    simp only [Nat.zero_mul, Nat.zero_testBit, Bool.xor_false]
    by_cases hj : j = k
    · subst hj; simp [hb]
    · have : (j < k) ↔ (j < k + 1) := by omega
      simp [this]
  · rw [h] at hb ⊢
    simp only [Nat.one_mul]
    by_cases hj : j = k
    · subst hj; rw [Nat.testBit_two_pow_self]; simp [hb]
    · rw [Nat.testBit_two_pow_of_ne (by omega)]
      have : (j < k) ↔ (j < k + 1) := by omega
      simp [this]
theorem cm_step (C a b i k : Nat) : (C ^^^ (a / 2 ^ i % 2 * (b % 2 ^ k)) * 2 ^ i) ^^^ (a / 2 ^ i % 2 * (b / 2 ^ k % 2)) * 2 ^ (i + k) = C ^^^ (a / 2 ^ i % 2 * (b % 2 ^ (k + 1))) * 2 ^ i := by
  rw [Nat.xor_assoc]
  congr 1
  rcases Nat.mod_two_eq_zero_or_one (a / 2 ^ i) with h | h
  · simp [h]
  · rw [h]
    simp only [Nat.one_mul]
    rw [← mod_next b k, mul_pow_xor]
    congr 1
    rw [Nat.mul_assoc, ← Nat.pow_add, Nat.add_comm k i]
set_option maxHeartbeats 1000000 in
theorem ref_Times (a b : Nat) (w : World) (ha : a < 256) (hb : b < 256) :
    Calls Try.prog 46 #[.int .u8 a, .int .u8 b] w fun e w' => e = .returned (.int .u8 (gmul a b : Nat)) ∧ ∃ n, w' = w.drewN n := by
  go_enter Try.func46, Try.ntmps46
  go_wp2_with fail
  go_loopw [5, 9] (fun vx vi wr => ∃ i x : Nat, vi = .int .i64 i ∧ vx = .int .i64 x ∧ i ≤ 8 ∧ x < 32768 ∧ Hid (x = cmulN i a b) ∧ ∃ n, wr = w.drewN n) (fun _ vi _ => 8 - (intOf vi).toNat)
  case atStart => exact ⟨0, 0, rfl, rfl, by omega, by omega, by show _ = _; rfl, 0, rfl⟩
  case round =>
    obtain ⟨i, x, rfl, rfl, hi, hx, hxe, n, rfl⟩ := hrel
    by_cases hi8 : i < 8
    · go_wp2_with fail
      obtain ⟨wo, hwo⟩ : ∃ wo : World, wo = w.drewN n := ⟨_, rfl⟩
      go_loopw [5, 12] (fun vx vk wr => ∃ k y : Nat, vk = .int .i64 k ∧ vx = .int .i64 y ∧ k ≤ 8 ∧ y < 32768 ∧ Hid (y = cmulN i a b ^^^ (a / 2 ^ i % 2 * (b % 2 ^ k)) * 2 ^ i) ∧ ∃ n, wr = w.drewN n) (fun _ vk _ => 8 - (intOf vk).toNat)
      case atStart => exact ⟨0, x, rfl, rfl, by omega, hx, by show _ = _; rw [← hxe.out]; simp [Nat.mod_one], n, rfl⟩
      case round =>
        obtain ⟨k, y, rfl, rfl, hk, hy, hye, n2, rfl⟩ := hrel
        by_cases hk8 : k < 8
        · go_wp2_with fail
          obtain ⟨p, hp⟩ : ∃ p, a / 2 ^ i % 2 = p := ⟨_, rfl⟩
          obtain ⟨q, hq⟩ : ∃ q, b / 2 ^ k % 2 = q := ⟨_, rfl⟩
          obtain ⟨r, hr⟩ : ∃ r, p * q = r := ⟨_, rfl⟩
          obtain ⟨S, hS⟩ : ∃ S, r * 2 ^ (i + k) = S := ⟨_, rfl⟩
          have hp1 : p ≤ 1 := by omega
          have hq1 : q ≤ 1 := by omega
          have hr1 : r ≤ 1 := by rw [← hr]; exact Nat.mul_le_mul hp1 hq1
          have hS1 : S ≤ 16384 := by
            rw [← hS]
            have h2 : 2 ^ (i + k) ≤ 2 ^ 14 := Nat.pow_le_pow_right (by omega) (by omega)
            have := Nat.mul_le_mul hr1 h2
            omega
          have e1 : bits .and .u8 ((a : Int) / 2 ^ i) 1 = (p : Int) := by
            have h1 : ((a : Int) / 2 ^ i) = ((a / 2 ^ i : Nat) : Int) := by push_cast; rfl
            rw [h1, u8_and_one _ (Nat.lt_of_le_of_lt (Nat.div_le_self _ _) ha), hp]
          have e2 : bits .and .u8 ((b : Int) / 2 ^ k) 1 = (q : Int) := by
            have h1 : ((b : Int) / 2 ^ k) = ((b / 2 ^ k : Nat) : Int) := by push_cast; rfl
            rw [h1, u8_and_one _ (Nat.lt_of_le_of_lt (Nat.div_le_self _ _) hb), hq]
          have e3 : IntKind.i64.wrap (p : Int) = p := IntWalk.i64_in _ (by omega)
          have e4 : IntKind.i64.wrap (q : Int) = q := IntWalk.i64_in _ (by omega)
          have e5 : (p : Int) * (q : Int) = (r : Int) := by rw [← hr]; push_cast; rfl
          have e5' : IntKind.i64.wrap (r : Int) = r := IntWalk.i64_in _ (by omega)
          have e6 : IntKind.i64.wrap ((i : Int) + k) = (i : Int) + k := IntWalk.i64_in _ (by omega)
          have e6' : ((i : Int) + k).toNat = i + k := by omega
          have e6'' : (0 : Int) ≤ (i : Int) + k := by omega
          have e6''' : (i : Int) + k ≤ 64 := by omega
          have e7 : IntKind.i64.wrap ((r : Int) * 2 ^ (i + k)) = (S : Int) := by
            have h1 : ((r : Int) * 2 ^ (i + k)) = (S : Int) := by rw [← hS]; push_cast; rfl
            rw [h1]; exact IntWalk.i64_in _ (by omega)
          have e8 := i64_xor_nat y S (by omega) (by omega)
          have hyS : y ^^^ S < 32768 := Nat.xor_lt_two_pow (n := 15) (by omega) (by omega)
          have hnew : Hid (y ^^^ S = cmulN i a b ^^^ (a / 2 ^ i % 2 * (b % 2 ^ (k + 1))) * 2 ^ i) := by
            show _ = _
            rw [hye.out, ← hS, ← hr, ← hp, ← hq]; exact cm_step _ _ _ _ _
          clear hp hq hr hS
          go_quiet (fail)
          clear e1 e2 e3 e4 e5 e5' e6 e6' e6'' e6''' e7 e8
          go_wp2_with fail
          go_roundw
          case rel => exact ⟨k + 1, y ^^^ S, by go_num, rfl, by omega, hyS, hnew, _, rfl⟩
          case measure => simp [intOf]; omega
        · obtain rfl : k = 8 := by omega
          have hfin : Hid (y = cmulN (i + 1) a b) := by
            show _ = _
            rw [hye.out, Nat.mod_eq_of_lt (show b < 2 ^ 8 from hb)]; rfl
          go_wp2_with fail
          go_roundw
          case rel => exact ⟨i + 1, y, by go_num, rfl, by omega, hy, hfin, _, rfl⟩
          case measure => simp [intOf]; omega
    · obtain rfl : i = 8 := by omega
      go_wp2_with fail
      go_loop [5, 8] (fun vx vk => ∃ j y : Nat, vk = .int .i64 ((j : Int) + 7) ∧ vx = .int .i64 y ∧ j ≤ 7 ∧ y < 32768 ∧ Hid (redN j y = redN 7 x)) (fun _ vk => (intOf vk).toNat)
      case atStart => exact ⟨7, x, rfl, rfl, by omega, hx, by show _ = _; rfl⟩
      case round =>
        obtain ⟨j, y, rfl, rfl, hj, hy, hred⟩ := hrel
        cases j with
        | zero =>
          have hfin : Hid (y % 256 = gmul a b) := by
            show _ = _
            rw [← timesN_eq ha hb]
            have h1 : y = redN 7 x := hred.out
            rw [h1, hxe.out]; rfl
          have hwr : IntKind.u8.wrap (y : Int) = ((y % 256 : Nat) : Int) := by rw [IntKind.wrap_u8]; rfl
          go_wp2_with fail
          go_ret
          exact ⟨by first | exact ret_u8 hfin.out | (rw [← hfin.out]; rfl), _, rfl⟩
        | succ j =>
          have h1 : ((y : Int) / 2 ^ (j + 1 + 7)) = ((y / 2 ^ (j + 8) : Nat) : Int) := by push_cast; rfl
          have h2 : bits .and .i64 ((y : Int) / 2 ^ (j + 1 + 7)) 1 = ((y / 2 ^ (j + 8) % 2 : Nat) : Int) := by
            rw [h1, i64_and_one _ (Nat.lt_of_le_of_lt (Nat.div_le_self _ _) (by omega))]
          have hC : 285 * 2 ^ j ≤ 18240 := by
            have h3 : 2 ^ j ≤ 2 ^ 6 := Nat.pow_le_pow_right (by omega) (by omega)
            omega
          have c1 : ((285 : Int) * 2 ^ j) = ((285 * 2 ^ j : Nat) : Int) := by rw [Int.natCast_mul, Int.natCast_pow]; rfl
          have t1 : ((j : Int) + 1 + 7 - 8).toNat = j := by omega
          have c2 : (0 : Int) ≤ 285 * 2 ^ j := by rw [c1]; omega
          have c3 : ((285 : Int) * 2 ^ j) ≤ 18240 := by rw [c1]; omega
          have c4 : IntKind.i64.wrap ((285 : Int) * 2 ^ j) = 285 * 2 ^ j := IntWalk.i64_in _ (by omega)
          have e8 : bits .xor .i64 (y : Int) (285 * 2 ^ j) = ((y ^^^ 285 * 2 ^ j : Nat) : Int) := by
            rw [c1]; exact i64_xor_nat y _ (by omega) (by omega)
          have hyC : y ^^^ 285 * 2 ^ j < 32768 := Nat.xor_lt_two_pow (n := 15) (by omega) (by omega)
          have hr2 : Hid (redN j (if y / 2 ^ (j + 8) % 2 = 1 then y ^^^ 285 * 2 ^ j else y) = redN 7 x) := hred.out
          rcases Nat.mod_two_eq_zero_or_one (y / 2 ^ (j + 8)) with h | h
          · have hb2 : (bits .and .i64 ((y : Int) / 2 ^ (j + 1 + 7)) 1 == 1) = false := by rw [h2, h]; rfl
            have hr3 : Hid (redN j y = redN 7 x) := by have := hr2.out; rw [if_neg (by omega)] at this; exact this
            clear h h1 h2 c1 hC
            go_wp2_with fail
            go_round
            case rel => exact ⟨j, y, by go_num, rfl, by omega, hy, hr3⟩
            case measure => simp only [intOf]; omega
          · have hb2 : (bits .and .i64 ((y : Int) / 2 ^ (j + 1 + 7)) 1 == 1) = true := by rw [h2, h]; rfl
            have hr3 : Hid (redN j (y ^^^ 285 * 2 ^ j) = redN 7 x) := by have := hr2.out; rw [if_pos h] at this; exact this
            clear h h1 h2 c1 hC
            go_wp2_with fail
            go_round
            case rel => exact ⟨j, y ^^^ 285 * 2 ^ j, by go_num, rfl, by omega, hyC, hr3⟩
            case measure => simp only [intOf]; omega

set_option maxHeartbeats 1000000 in
theorem ref_Undo (a : Nat) (w : World) (ha : a < 256) :
    Calls Try.prog 54 #[.int .u8 a] w fun e w' => e = .returned (.int .u8 (ginv a : Nat)) ∧ ∃ n, w' = w.drewN n := by
  have hu : Hid (∀ k, gpow a (2 ^ k) < 256) := fun k => gpow_lt _
  go_enter Try.func54, Try.ntmps54
  go_wp2_with fail
  go_loopw [0, 3, 4] (fun va vo vi wr => ∃ i x o : Nat, vi = .int .i64 i ∧ va = .int .u8 x ∧ vo = .int .u8 o ∧ i ≤ 7 ∧ x < 256 ∧ o < 256 ∧ Hid (x = gpow a (2 ^ i)) ∧ Hid (o = gpow a (2 ^ (i + 1) - 2)) ∧ ∃ n, wr = w.drewN n) (fun _ _ vi _ => 7 - (intOf vi).toNat)
  case atStart => exact ⟨0, a, 1, rfl, rfl, rfl, by omega, ha, by omega, by show _ = _; rw [Nat.pow_zero, gpow_one ha], by show _ = _; rfl, 0, rfl⟩
  case round =>
    obtain ⟨i, x, o, rfl, rfl, rfl, hi, hx, ho, hxe, hoe, n, rfl⟩ := hrel
    by_cases h7 : i < 7
    · have hxx : gmul x x < 256 := gmul_lt hx
      have hx2 : Hid (gmul x x = gpow a (2 ^ (i + 1))) := by
        show _ = _
        rw [hxe.out, ← gpow_add ha, Nat.pow_succ]; congr 1; omega
      have ho2 : gmul o (gmul x x) < 256 := gmul_lt ho
      have hoe2 : Hid (gmul o (gmul x x) = gpow a (2 ^ (i + 1 + 1) - 2)) := by
        show _ = _
        rw [hx2.out, hoe.out, ← gpow_add ha]
        congr 1
        have : 2 ≤ 2 ^ (i + 1) := Nat.pow_le_pow_right (n := 2) (by omega) (show 1 ≤ i + 1 by omega)
        rw [Nat.pow_succ 2 (i + 1)]; omega
      go_wp2_with fail
      refine (ref_Times x x _ hx hx).mono ?_; rintro e w' ⟨rfl, n2, rfl⟩
      go_wp2_with fail
      refine (ref_Times o (gmul x x) _ ho hxx).mono ?_; rintro e w' ⟨rfl, n3, rfl⟩
      go_wp2_with fail
      go_roundw
      case rel => exact ⟨i + 1, gmul x x, gmul o (gmul x x), by go_num, rfl, rfl, by omega, hxx, ho2, hx2, hoe2, _, rfl⟩
      case measure => simp [intOf]; omega
    · obtain rfl : i = 7 := by omega
      have hfin : Hid (o = ginv a) := by show _ = _; rw [hoe.out, ginv_pow ha]
      go_wp2_with fail
      go_ret
      exact ⟨ret_u8 hfin.out, _, rfl⟩

set_option maxHeartbeats 1000000 in
theorem ref_Power (a n : Nat) (w : World) (ha : a < 256) (hn : n < 9223372036854775808) :
    Calls Try.prog 50 #[.int .u8 a, .int .i64 n] w fun e w' => e = .returned (.int .u8 (gpow a n : Nat)) ∧ ∃ k, w' = w.drewN k := by
  obtain ⟨N, hN⟩ : ∃ N, N = if 255 < n then (n - 1) % 255 + 1 else n := ⟨_, rfl⟩
  have hNb : N ≤ 255 := by rw [hN]; split <;> omega
  have hR : Hid (gpow a N = gpow a n) := by
    show _ = _
    rw [hN]
    split
    · exact gpow_red ha n (by omega)
    · rfl
  by_cases h : 255 < n
  · have hd : decide ((255 : Int) < n) = true := by simp; omega
    have hNe1 : ((n : Int) - 1) % 255 + 1 ≤ (N : Int) := by rw [hN, if_pos h]; omega
    have hNe2 : (N : Int) ≤ ((n : Int) - 1) % 255 + 1 := by rw [hN, if_pos h]; omega
    clear hN
    go_enter Try.func50, Try.ntmps50
    go_wp2_with fail
    go_loopw [5, 13] (fun vo vi wr => ∃ i o : Nat, vi = .int .i64 i ∧ vo = .int .u8 o ∧ i ≤ N ∧ o < 256 ∧ Hid (o = gpow a i) ∧ ∃ k, wr = w.drewN k) (fun _ vi _ => N - (intOf vi).toNat)
    case atStart => exact ⟨0, 1, rfl, rfl, by omega, by omega, by show _ = _; rfl, 0, rfl⟩
    case round =>
      obtain ⟨i, o, rfl, rfl, hi, ho, hoe, k, rfl⟩ := hrel
      by_cases hiN : i < N
      · have hoa : gmul o a < 256 := gmul_lt ho
        have hoe2 : Hid (gmul o a = gpow a (i + 1)) := by show _ = _; rw [hoe.out]; rfl
        go_wp2_with (go_at_call 46; refine (ref_Times o a _ ho ha).mono ?_; rintro e w' ⟨rfl, n2, rfl⟩)
        go_roundw
        case rel => first | exact ⟨i + 1, gmul o a, by go_num, rfl, by omega, hoa, hoe2, _, rfl⟩ | ((repeat apply Exists.intro); exact ⟨⟨i + 1, gmul o a, by go_num, rfl, by omega, hoa, hoe2, _, rfl⟩, rfl⟩)
        case measure => simp [intOf]; omega
      · obtain rfl : i = N := by omega
        have hfin : Hid (o = gpow a n) := by show _ = _; rw [hoe.out, hR.out]
        go_wp2_with fail
        go_ret
        exact ⟨ret_u8 hfin.out, _, rfl⟩
  · have hNe : n = N := by rw [hN, if_neg h]
    subst hNe
    have hd : decide ((255 : Int) < n) = false := by simp; omega
    clear hN
    go_enter Try.func50, Try.ntmps50
    go_wp2_with fail
    go_loopw [5, 13] (fun vo vi wr => ∃ i o : Nat, vi = .int .i64 i ∧ vo = .int .u8 o ∧ i ≤ n ∧ o < 256 ∧ Hid (o = gpow a i) ∧ ∃ k, wr = w.drewN k) (fun _ vi _ => n - (intOf vi).toNat)
    case atStart => exact ⟨0, 1, rfl, rfl, by omega, by omega, by show _ = _; rfl, 0, rfl⟩
    case round =>
      obtain ⟨i, o, rfl, rfl, hi, ho, hoe, k, rfl⟩ := hrel
      by_cases hiN : i < n
      · have hoa : gmul o a < 256 := gmul_lt ho
        have hoe2 : Hid (gmul o a = gpow a (i + 1)) := by show _ = _; rw [hoe.out]; rfl
        go_wp2_with (go_at_call 46; refine (ref_Times o a _ ho ha).mono ?_; rintro e w' ⟨rfl, n2, rfl⟩)
        go_roundw
        case rel => first | exact ⟨i + 1, gmul o a, by go_num, rfl, by omega, hoa, hoe2, _, rfl⟩ | ((repeat apply Exists.intro); exact ⟨⟨i + 1, gmul o a, by go_num, rfl, by omega, hoa, hoe2, _, rfl⟩, rfl⟩)
        case measure => simp [intOf]; omega
      · obtain rfl : i = n := by omega
        have hfin : Hid (o = gpow a i) := hoe
        go_wp2_with fail
        go_ret
        exact ⟨ret_u8 hfin.out, _, rfl⟩
end Go.Proofs.Ytgdcmebhopjfaaa
