/- Contracts of package divide: Moebius, check, sums. -/
import Derived.Test.YtgdcmebhopjfaaaRows
import Derived.Test.YtgdcmebhopjfaaaShM8
import Derived.Test.YtgdcmebhopjfaaaShM6
import Derived.Test.YtgdcmebhopjfaaaShM5
import Derived.Test.YtgdcmebhopjfaaaShM3
import Derived.Deep.RegionLaw
import Derived.Deep.DrawnRows
import Derived.Test.YtgdcmebhopjfaaaFieldM
namespace Go.Proofs.Ytgdcmebhopjfaaa
open Go.RowKit

theorem powCells_get (l : List (Nat × Nat)) (k : Nat) (a : Nat × Nat) (h : l[k]? = some a) : (powCells l)[k * 2]? = some (.int .i64 a.1) ∧ (powCells l)[k * 2 + 1]? = some (.int .i64 a.2) := by
  induction l generalizing k with
  | nil => simp at h
  | cons b l ih =>
    cases k with
    | zero => simp at h; subst h; simp [powCells]
    | succ k =>
      simp at h
      have := ih k h
      have e1 : (k + 1) * 2 = k * 2 + 2 := by omega
      rw [e1]
      simpa [powCells] using this
theorem take_snoc2 {α : Type} (l : List α) (k : Nat) (a : α) (h : l[k]? = some a) : l.take (k + 1) = l.take k ++ [a] := by
  obtain ⟨hl, he⟩ := List.getElem?_eq_some_iff.1 h
  rw [List.take_succ_eq_append_getElem hl, he]
theorem valL_zero {g : Nat → Nat → Int} {l : List (Nat × Nat)} {a : Nat × Nat} (ha : a ∈ l) (h : g a.1 a.2 = 0) : valL g l = 0 := by
  induction l with
  | nil => simp at ha
  | cons b l ih =>
    simp only [valL]
    rw [List.mem_cons] at ha
    rcases ha with ha | ha
    · subst ha; rw [h, Int.zero_mul]
    · rw [ih ha, Int.mul_zero]
set_option maxRecDepth 100000 in
set_option maxHeartbeats 2000000 in
theorem divide_Moebius (n : Nat) (w : World) (h1 : 1 ≤ n) (hn : n ≤ 1000000) :
    Calls Try.prog 25 #[.int .i64 n] w fun e w' => e = .returned (.tuple #[.int .i64 (mu n), .int .i64 0]) ∧ Below w.heap.size w w' := by
  go_enter Try.func25, Try.ntmps25
  go_wp2_with fail
  refine (prime_Factor n w h1 hn).mono ?_
  rintro e w1 ⟨l, v, hF, hll, rfl, hown, hbel⟩
  obtain ⟨ao, cp, rfl, hR, hnone, hmx⟩ := own_reads hown
  have HF := Lib.hid hF
  have HR := Lib.hid hR
  have HB := Lib.hid hbel
  have HMU : Hid (mu n = valL muG l) := mult_eq hF
  obtain ⟨len, hlen⟩ : ∃ len, l.length = len := ⟨_, rfl⟩
  rw [hlen] at hll ⊢
  have HL := Lib.hid hlen
  clear hF hR hnone hmx hown hbel hlen
  go_wp2_with fail
  go_loopw [6, 19] (fun vo vi wr => ∃ (k : Nat) (o : Int), vi = .int .i64 k ∧ k ≤ len ∧ vo = .int .i64 o ∧ -1 ≤ o ∧ o ≤ 1 ∧ Hid (o = valL muG (l.take k)) ∧ Hid (Below w1.heap.size w1 wr)) (fun _ vi _ => len - (intOf vi).toNat)
  case atStart => exact ⟨0, 1, rfl, by omega, rfl, by omega, by omega, rfl, Below.refl _ _⟩
  case round =>
    obtain ⟨k, o, rfl, hk, rfl, ho1, ho2, hoe, hb⟩ := hrel
    by_cases hkl : k < len
    · obtain ⟨a, ha⟩ : ∃ a, l[k]? = some a := ⟨l[k]'(by rw [HL.out]; exact hkl), List.getElem?_eq_getElem _⟩
      have hma := List.mem_of_getElem? ha
      obtain ⟨P, N⟩ := a
      have hN1 := (HF.out.pr _ hma).2
      simp only at hN1
      have hc1 := powCells_get l k _ ha
      have hR2 := (HR.out).below hb.out
      obtain ⟨b, of, rfl, hcell1⟩ := hR2 _ _ hc1.1
      obtain ⟨b', of', hbo, hcell2⟩ := hR2 _ _ hc1.2
      simp only [Option.some.injEq, Addr.mk.injEq, and_true] at hbo
      obtain ⟨rfl, rfl⟩ := hbo
      have HT := Lib.hid (take_snoc2 l k _ ha)
      have hcell1' : wr.cell? ⟨b, of + k * 2, none⟩ = some (.int .i64 P) := hcell1
      have hcell2' : wr.cell? ⟨b, of + k * 2 + 1, none⟩ = some (.int .i64 N) := hcell2
      have HMA := Lib.hid hma
      clear hR2 hc1 ha hma hcell1 hcell2
      by_cases hN : N = 1
      · subst hN
        have hnew : Hid (-o = valL muG (l.take (k + 1))) := by
          show _ = _
          rw [HT.out, valL_append, ← hoe.out]
          simp [valL, muG]
        go_wp2_with fail
        go_roundw
        case rel => exact ⟨k + 1, -o, by go_num, by omega, by first | rfl | go_num, by omega, by omega, hnew, hb.out.trans ((Below.refl _ _).alloc hb.out.size _)⟩
        case measure => simp [intOf]; omega
      · have dN : decide ((1 : Int) < N) = true := by simp; omega
        have hz : Hid (mu n = 0) := by
          show _ = _
          rw [HMU.out]
          exact valL_zero HMA.out (by unfold muG; rw [if_neg hN])
        go_wp2_with fail
        go_ret2
        exact ⟨by rw [hz.out]; rfl, HB.out.trans (Below.mono (hb.out.trans ((Below.refl _ _).alloc hb.out.size _)) HB.out.size)⟩
    · have hfin : Hid (mu n = o) := by
        show _ = _
        rw [HMU.out, hoe.out, show k = l.length by rw [HL.out]; omega, List.take_length]
      go_wp2_with fail
      go_ret2
      exact ⟨by rw [hfin.out]; rfl, HB.out.trans (Below.mono hb.out HB.out.size)⟩
end Go.Proofs.Ytgdcmebhopjfaaa
namespace Go.Proofs.Ytgdcmebhopjfaaa
open Go.RowKit

set_option maxRecDepth 20000 in
set_option maxHeartbeats 400000 in
theorem indexFunc_err (fn : FuncId) (hfn : ∀ (x : Value) (W : World), (callFunc fn #[x]).run Try.prog W = .ok (.enter fn #[x]) W) (p : Int → Bool) (zs : List Int) (ao : Option Addr) (cap : Nat) (w : World) (hl : zs.length ≤ 9223372036854775807) (hR : Hid (Reads w ao (zs.map (Value.int .i64))))
    (hf : Hid (∀ x ∈ zs, ∀ n, Calls Try.prog fn #[.int .i64 x] (w.drewN n) fun e w' => e = .returned (.bool (p x)) ∧ ∃ m, w' = (w.drewN n).drewN m)) :
    Calls Try.prog 151 #[.slice ao zs.length cap, .func (.func fn) #[] #[]] w fun e w' => e = .returned (.int .i64 (idxI p zs)) ∧ ∃ n, w' = w.drewN n := by
  obtain ⟨len, hlen⟩ : ∃ n, zs.length = n := ⟨_, rfl⟩
  rw [hlen] at hl ⊢
  have HL := Lib.hid hlen
  clear hlen
  go_enter Try.func151, Try.ntmps151
  go_wp2_with fail
  go_loopw [8] (fun vi wr => ∃ k : Nat, vi = .int .i64 k ∧ k ≤ len ∧ Hid (∀ j y, j < k → zs[j]? = some y → p y = false) ∧ ∃ n, wr = w.drewN n) (fun vi _ => len - (intOf vi).toNat)
  case atStart => exact ⟨0, rfl, by omega, by intro j y hj; omega, 0, rfl⟩
  case round =>
    obtain ⟨k, rfl, hk, hno, n, rfl⟩ := hrel
    by_cases hkl : k < len
    · obtain ⟨x, hx⟩ : ∃ x, zs[k]? = some x := ⟨zs[k]'(by rw [HL.out]; exact hkl), List.getElem?_eq_getElem _⟩
      obtain ⟨b, o, rfl, hc⟩ := hR.out k (.int .i64 x) (by simp [hx])
      have HX := Lib.hid hx
      clear hx
      have hcall := Lib.hid (hf.out x (List.mem_of_getElem? HX.out))
      cases hp : p x with
      | true =>
        have HP := Lib.hid hp
        clear hp
        go_wp2_with fail
        refine (hcall.out n).mono ?_
        rw [HP.out]
        rintro e w' ⟨rfl, m, rfl⟩
        go_wp2
        go_ret
        exact ⟨ret_int (idxI_some HX.out HP.out hno.out).symm, _, rfl⟩
      | false =>
        have HP := Lib.hid hp
        clear hp
        go_wp2_with fail
        refine (hcall.out n).mono ?_
        rw [HP.out]
        rintro e w' ⟨rfl, m, rfl⟩
        go_wp2
        go_roundw
        case rel => exact ⟨k + 1, by go_num, by omega, by
          intro j y hj hy
          by_cases he : j = k
          · subst he; rw [HX.out] at hy; cases hy; exact HP.out
          · exact hno.out j y (by omega) hy, _, rfl⟩
        case measure => simp [intOf]; omega
    · obtain rfl : k = len := by omega
      go_wp2
      go_ret
      refine ⟨ret_int (idxI_none fun x hx => ?_).symm, _, rfl⟩
      obtain ⟨j, hj⟩ := List.getElem?_of_mem hx
      have := (List.getElem?_eq_some_iff.1 hj).1
      exact hno.out j x (by have := HL.out; omega) hj
set_option maxHeartbeats 400000 in
theorem containsFunc_err (fn : FuncId) (hfn : ∀ (x : Value) (W : World), (callFunc fn #[x]).run Try.prog W = .ok (.enter fn #[x]) W) (p : Int → Bool) (zs : List Int) (ao : Option Addr) (cap : Nat) (w : World) (hl : zs.length ≤ 9223372036854775807) (hR : Hid (Reads w ao (zs.map (Value.int .i64))))
    (hf : Hid (∀ x ∈ zs, ∀ n, Calls Try.prog fn #[.int .i64 x] (w.drewN n) fun e w' => e = .returned (.bool (p x)) ∧ ∃ m, w' = (w.drewN n).drewN m)) :
    Calls Try.prog 89 #[.slice ao zs.length cap, .func (.func fn) #[] #[]] w fun e w' => e = .returned (.bool (zs.any p)) ∧ ∃ n, w' = w.drewN n := by
  go_enter Try.func89, Try.ntmps89
  go_wp2_with (go_at_call 151; refine (indexFunc_err fn hfn p zs ao cap w hl hR hf).mono ?_; rintro e w' ⟨rfl, n, rfl⟩)
  go_ret
  exact ⟨ret_bool (idxI_nonneg p zs), _, rfl⟩
end Go.Proofs.Ytgdcmebhopjfaaa
namespace Go.Proofs.Ytgdcmebhopjfaaa

def gpow (a : Nat) : Nat → Nat
  | 0 => 1
  | n + 1 => gmul (gpow a n) a
theorem gpow_lt {a : Nat} (n : Nat) : gpow a n < 256 := by
  induction n with
  | zero => simp [gpow]
  | succ n ih => exact gmul_lt ih
theorem gpow_one {a : Nat} (ha : a < 256) : gpow a 1 = a := by simp only [gpow]; exact one_gmul ha
theorem gpow_add {a : Nat} (ha : a < 256) (m n : Nat) : gpow a (m + n) = gmul (gpow a m) (gpow a n) := by
  induction n with
  | zero => simp only [gpow, Nat.add_zero]; rw [gmul_one (gpow_lt m)]
  | succ n ih => rw [← Nat.add_assoc]; simp only [gpow]; rw [ih, gmul_assoc (gpow_lt m) (gpow_lt n) ha]
theorem gpow_sq {a : Nat} (ha : a < 256) (n : Nat) : gpow (gmul a a) n = gpow a (2 * n) := by
  induction n with
  | zero => rfl
  | succ n ih =>
    have e : 2 * (n + 1) = 2 * n + 2 := by omega
    rw [e, gpow_add ha]
    have h2 : gpow a 2 = gmul a a := by simp only [gpow]; rw [one_gmul ha]
    simp only [gpow] at h2 ⊢
    rw [ih, h2]
theorem ginv_pow {a : Nat} (ha : a < 256) : ginv a = gpow a 254 := by
  have h2 : gmul a a = gpow a 2 := by simp only [gpow]; rw [one_gmul ha]
  have hs : ∀ n, gmul (gpow a n) (gpow a n) = gpow a (n + n) := fun n => (gpow_add ha n n).symm
  unfold ginv
  simp only [h2, hs, ← gpow_add ha]
theorem gpow_255 {a : Nat} (ha : a < 256) (h0 : a ≠ 0) : gpow a 255 = 1 := by
  show gmul (gpow a 254) a = 1
  rw [← ginv_pow ha, gmul_comm (ginv_lt ha) ha, gmul_ginv ha h0]
theorem gpow_zero_succ (n : Nat) : gpow 0 (n + 1) = 0 := gmul_zero _
theorem gpow_period {a : Nat} (ha : a < 256) (n : Nat) (hn : 1 ≤ n) : gpow a (n + 255) = gpow a n := by
  by_cases h0 : a = 0
  · subst h0
    obtain ⟨m, rfl⟩ : ∃ m, n = m + 1 := ⟨n - 1, by omega⟩
    rw [show m + 1 + 255 = (m + 255) + 1 by omega, gpow_zero_succ, gpow_zero_succ]
  · rw [gpow_add ha, gpow_255 ha h0, gmul_one (gpow_lt n)]
theorem gpow_red {a : Nat} (ha : a < 256) (n : Nat) (hn : 1 ≤ n) : gpow a ((n - 1) % 255 + 1) = gpow a n := by
  have H : ∀ q r, gpow a (r + 1 + 255 * q) = gpow a (r + 1) := by
    intro q r
    induction q with
    | zero => rfl
    | succ q ih => rw [show r + 1 + 255 * (q + 1) = (r + 1 + 255 * q) + 255 by omega, gpow_period ha _ (by omega), ih]
  have e : n = (n - 1) % 255 + 1 + 255 * ((n - 1) / 255) := by omega
  conv => rhs; rw [e]
  rw [H]

def powList : Nat → Nat → List Nat
  | 0, _ => []
  | f + 1, x => x :: powList f (xt x)
set_option maxRecDepth 100000 in
theorem powList_eq : powList 255 1 = [1, 2, 4, 8, 16, 32, 64, 128, 29, 58, 116, 232, 205, 135, 19, 38, 76, 152, 45, 90, 180, 117, 234, 201, 143, 3, 6, 12, 24, 48, 96, 192, 157, 39, 78, 156, 37, 74, 148, 53, 106, 212, 181, 119, 238, 193, 159, 35, 70, 140, 5, 10, 20, 40, 80, 160, 93, 186, 105, 210, 185, 111, 222, 161, 95, 190, 97, 194, 153, 47, 94, 188, 101, 202, 137, 15, 30, 60, 120, 240, 253, 231, 211, 187, 107, 214, 177, 127, 254, 225, 223, 163, 91, 182, 113, 226, 217, 175, 67, 134, 17, 34, 68, 136, 13, 26, 52, 104, 208, 189, 103, 206, 129, 31, 62, 124, 248, 237, 199, 147, 59, 118, 236, 197, 151, 51, 102, 204, 133, 23, 46, 92, 184, 109, 218, 169, 79, 158, 33, 66, 132, 21, 42, 84, 168, 77, 154, 41, 82, 164, 85, 170, 73, 146, 57, 114, 228, 213, 183, 115, 230, 209, 191, 99, 198, 145, 63, 126, 252, 229, 215, 179, 123, 246, 241, 255, 227, 219, 171, 75, 150, 49, 98, 196, 149, 55, 110, 220, 165, 87, 174, 65, 130, 25, 50, 100, 200, 141, 7, 14, 28, 56, 112, 224, 221, 167, 83, 166, 81, 162, 89, 178, 121, 242, 249, 239, 195, 155, 43, 86, 172, 69, 138, 9, 18, 36, 72, 144, 61, 122, 244, 245, 247, 243, 251, 235, 203, 139, 11, 22, 44, 88, 176, 125, 250, 233, 207, 131, 27, 54, 108, 216, 173, 71, 142] := by decide +kernel
theorem gmul_two {x : Nat} (h : x < 256) : gmul x 2 = xt x := by simp [gmul, gm]
theorem powList_get (f x k : Nat) (hk : k < f) (hx : x < 256) : (powList f x)[k]? = some (gmul x (gpow 2 k)) := by
  induction f generalizing x k with
  | zero => omega
  | succ f ih =>
    cases k with
    | zero => simp [powList, gpow, gmul_one hx]
    | succ k =>
      simp only [powList, List.getElem?_cons_succ]
      have h1 : gpow 2 (k + 1) = gmul (gpow 2 k) 2 := rfl
      have h2 : gmul (xt x) (gpow 2 k) = gmul x (gpow 2 (k + 1)) := by
        rw [h1, ← gmul_two hx, gmul_assoc hx (show 2 < 256 by omega) (gpow_lt k), gmul_comm (show 2 < 256 by omega) (gpow_lt k)]
      rw [ih _ _ (by omega) (xt_lt hx), h2]
theorem powList_length (f x : Nat) : (powList f x).length = f := by
  induction f generalizing x with
  | zero => rfl
  | succ f ih => simp [powList, ih]
set_option maxRecDepth 100000 in
theorem powList_all : ∀ a : Fin 256, a.val ≠ 0 → (powList 255 1).contains a.val = true := by
  rw [powList_eq]; decide +kernel
theorem log_exists {a : Nat} (ha : a < 256) (h0 : a ≠ 0) : ∃ k, k < 255 ∧ gpow 2 k = a := by
  have h1 := powList_all ⟨a, ha⟩ h0
  simp only [List.contains_iff_mem] at h1
  obtain ⟨k, hk⟩ := List.getElem?_of_mem h1
  have hl : (powList 255 1).length = 255 := powList_length _ _
  have hk2 : k < 255 := by have := (List.getElem?_eq_some_iff.1 hk).1; omega
  rw [powList_get 255 1 k hk2 (by omega), one_gmul (gpow_lt k)] at hk
  exact ⟨k, hk2, by simpa using hk⟩
/-- The logarithm to the base 2: the first exponent. -/
noncomputable def glog (a : Nat) : Nat := Classical.epsilon fun k => gpow 2 k = a ∧ ∀ j, j < k → gpow 2 j ≠ a
theorem first_exists {p : Nat → Prop} {k : Nat} (h : p k) : ∃ m, m ≤ k ∧ p m ∧ ∀ j, j < m → ¬ p j := by
  induction k using Nat.strongRecOn with
  | _ k ih =>
    by_cases hh : ∃ j, j < k ∧ p j
    · obtain ⟨j, hj, hp⟩ := hh
      obtain ⟨m, hm, h2⟩ := ih j hj hp
      exact ⟨m, by omega, h2⟩
    · exact ⟨k, Nat.le_refl _, h, fun j hj hp => hh ⟨j, hj, hp⟩⟩
theorem glog_spec {a : Nat} (ha : a < 256) (h0 : a ≠ 0) : glog a < 255 ∧ gpow 2 (glog a) = a ∧ ∀ j, j < glog a → gpow 2 j ≠ a := by
  obtain ⟨k, hk, he⟩ := log_exists ha h0
  obtain ⟨m, hm, h1, h2⟩ := first_exists (p := fun k => gpow 2 k = a) he
  have hs := Classical.epsilon_spec (p := fun k => gpow 2 k = a ∧ ∀ j, j < k → gpow 2 j ≠ a) ⟨m, h1, h2⟩
  refine ⟨?_, hs.1, hs.2⟩
  rcases Nat.lt_or_ge (glog a) 255 with h3 | h3
  · exact h3
  · exact absurd he (hs.2 k (Nat.lt_of_lt_of_le hk h3))

/-! ### The reference's product -/
def cmulN : Nat → Nat → Nat → Nat
  | 0, _, _ => 0
  | i + 1, a, b => cmulN i a b ^^^ (a / 2 ^ i % 2 * b) * 2 ^ i
def redN : Nat → Nat → Nat
  | 0, x => x
  | j + 1, x => redN j (if x / 2 ^ (j + 8) % 2 = 1 then x ^^^ 285 * 2 ^ j else x)
def timesN (a b : Nat) : Nat := redN 7 (cmulN 8 a b) % 256
theorem mul_pow_xor (x y i : Nat) : (x ^^^ y) * 2 ^ i = x * 2 ^ i ^^^ y * 2 ^ i := by
  rw [← Nat.shiftLeft_eq, ← Nat.shiftLeft_eq, ← Nat.shiftLeft_eq, Nat.shiftLeft_xor_distrib]
theorem div_pow_xor (x y i : Nat) : (x ^^^ y) / 2 ^ i = x / 2 ^ i ^^^ y / 2 ^ i := by
  rw [← Nat.shiftRight_eq_div_pow, ← Nat.shiftRight_eq_div_pow, ← Nat.shiftRight_eq_div_pow, Nat.shiftRight_xor_distrib]
theorem bit_xor (x y i : Nat) : (x ^^^ y) / 2 ^ i % 2 = (x / 2 ^ i % 2 ^^^ y / 2 ^ i % 2) := by rw [div_pow_xor, mod2_xor]
theorem cmulN_right (i a b b' : Nat) : cmulN i a (b ^^^ b') = cmulN i a b ^^^ cmulN i a b' := by
  induction i with
  | zero => simp [cmulN]
  | succ i ih =>
    simp only [cmulN]
    rw [ih, xor4]
    congr 1
    rcases Nat.mod_two_eq_zero_or_one (a / 2 ^ i) with h | h <;> simp [h, mul_pow_xor]
theorem cmulN_left (i a a' b : Nat) : cmulN i (a ^^^ a') b = cmulN i a b ^^^ cmulN i a' b := by
  induction i with
  | zero => simp [cmulN]
  | succ i ih =>
    simp only [cmulN]
    rw [ih, xor4, bit_xor]
    congr 1
    rcases Nat.mod_two_eq_zero_or_one (a / 2 ^ i) with h | h <;> rcases Nat.mod_two_eq_zero_or_one (a' / 2 ^ i) with h' | h' <;> simp [h, h']
theorem redN_xor (j x y : Nat) : redN j (x ^^^ y) = redN j x ^^^ redN j y := by
  induction j generalizing x y with
  | zero => rfl
  | succ j ih =>
    simp only [redN]
    rw [← ih, bit_xor]
    congr 1
    generalize 285 * 2 ^ j = c
    rcases Nat.mod_two_eq_zero_or_one (x / 2 ^ (j + 8)) with h | h <;> rcases Nat.mod_two_eq_zero_or_one (y / 2 ^ (j + 8)) with h' | h' <;> simp [h, h']
    · rw [Nat.xor_assoc]
    · rw [Nat.xor_assoc, Nat.xor_assoc, Nat.xor_comm c]
    · rw [xor4, Nat.xor_self, Nat.xor_zero]
theorem timesN_right (a b b' : Nat) : timesN a (b ^^^ b') = timesN a b ^^^ timesN a b' := by
  unfold timesN; rw [cmulN_right, redN_xor, Nat.xor_mod_two_pow (n := 8)]
theorem timesN_left (a a' b : Nat) : timesN (a ^^^ a') b = timesN a b ^^^ timesN a' b := by
  unfold timesN; rw [cmulN_left, redN_xor, Nat.xor_mod_two_pow (n := 8)]
theorem timesN_eq {a b : Nat} (ha : a < 256) (hb : b < 256) : timesN a b = gmul a b := by
  refine lin_ext (fun x => timesN x b) (fun x => gmul x b) (fun x y _ _ => timesN_left x y b) (fun x y hx hy => gmul_left b hx hy) (fun k hk => ?_) a ha
  refine lin_ext (fun y => timesN (2 ^ k) y) (fun y => gmul (2 ^ k) y) (fun x y _ _ => timesN_right _ x y) (fun x y _ _ => gmul_right _ x y) (fun j hj => ?_) b hb
  have H : ∀ k : Fin 8, ∀ j : Fin 8, timesN (2 ^ k.val) (2 ^ j.val) = gmul (2 ^ k.val) (2 ^ j.val) := by decide +kernel
  exact H ⟨k, hk⟩ ⟨j, hj⟩
end Go.Proofs.Ytgdcmebhopjfaaa
namespace Go.Proofs.Ytgdcmebhopjfaaa
open Go.RowKit

theorem gm_zero (f a o : Nat) : gm f a 0 o = o := by
  induction f generalizing a with
  | zero => rfl
  | succ f ih => simp only [gm]; exact ih _
theorem ret_u8 {a b : Nat} (h : a = b) : Ending.returned (.int .u8 (a : Int)) = .returned (.int .u8 (b : Int)) := by rw [h]

theorem u8_and_one (a : Nat) (ha : a < 256) : bits .and .u8 (a : Int) 1 = ((a % 2 : Nat) : Int) := by
  have := u8_and_nat a 1 ha (by omega)
  rw [Nat.and_one_is_mod] at this
  exact this
set_option maxHeartbeats 1000000 in
theorem field_Mul (a b : Nat) (w : World) (ha : a < 256) (hb : b < 256) :
    Calls Try.prog 99 #[.int .u8 a, .int .u8 b] w fun e w' => e = .returned (.int .u8 (gmul a b : Nat)) ∧ w = w' := by
  go_enter Try.func99, Try.ntmps99
  go_wp2_with fail
  go_loop [1, 5, 6] (fun vb vx vo => ∃ y x o f : Nat, vb = .int .u8 y ∧ vx = .int .i64 x ∧ vo = .int .i64 o ∧ y < 256 ∧ x < 256 ∧ o < 256 ∧ Hid (y < 2 ^ f) ∧ Hid (gm f x y o = gmul a b)) (fun vb _ _ => (intOf vb).toNat)
  case atStart => exact ⟨b, a, 0, 8, rfl, rfl, rfl, hb, ha, by omega, hb, by show _ = _; unfold gmul; rfl⟩
  case round =>
    obtain ⟨y, x, o, f, rfl, rfl, rfl, hy, hx, ho, hf, hg⟩ := hrel
    by_cases h0 : y = 0
    · subst h0
      have hR : Hid (o = gmul a b) := by have := hg.out; rw [gm_zero] at this; exact this
      go_wp2_with fail
      go_ret
      exact ⟨ret_u8 hR.out, rfl⟩
    · have hx1 := i64_xor_nat o x (by omega) (by omega)
      have hx2 : bits .xor .i64 ((x : Int) * 2) 285 = ((x * 2 ^^^ 285 : Nat) : Int) := i64_xor_nat (x * 2) 285 (by omega) (by omega)
      obtain ⟨f, rfl⟩ : ∃ f', f = f' + 1 := by
        cases f with
        | zero => have := hf.out; simp at this; omega
        | succ f => exact ⟨f, rfl⟩
      have hf2 : Hid (y / 2 < 2 ^ f) := by have := hf.out; rw [Nat.pow_succ] at this; show _ < _; omega
      have hox := xor_lt256 ho hx
      have hg2 : Hid (gm f (xt x) (y / 2) (if y % 2 = 1 then o ^^^ x else o) = gmul a b) := hg.out
      have hxl := xt_lt hx
      have hlt : Hid (y / 2 < y) := Nat.div_lt_self (by omega) (by omega)
      have hpar : (y % 2 = 1 ∧ (bits .and .u8 (y : Int) 1 == 1) = true) ∨ (y % 2 = 0 ∧ (bits .and .u8 (y : Int) 1 == 1) = false) := by
        rw [u8_and_one y hy]
        rcases Nat.mod_two_eq_zero_or_one y with h | h <;> simp [h]
      by_cases h2 : 255 < x * 2
      · have hxt : Hid (x * 2 ^^^ 285 = xt x) := by show _ = _; unfold xt; rw [if_pos h2]
        rcases hpar with ⟨hp, hpb⟩ | ⟨hp, hpb⟩
        · have hg3 : Hid (gm f (xt x) (y / 2) (o ^^^ x) = gmul a b) := by have := hg2.out; rw [if_pos hp] at this; exact this
          clear hp
          go_wp2_with fail
          go_round
          case rel => exact ⟨y / 2, xt x, o ^^^ x, f, by go_num, by rw [← hxt.out], rfl, by omega, hxl, hox, hf2, hg3⟩
          case measure => have := hlt.out; simp [intOf]; omega
        · have hg3 : Hid (gm f (xt x) (y / 2) o = gmul a b) := by have := hg2.out; rw [if_neg (by omega)] at this; exact this
          clear hp
          go_wp2_with fail
          go_round
          case rel => exact ⟨y / 2, xt x, o, f, by go_num, by rw [← hxt.out], rfl, by omega, hxl, ho, hf2, hg3⟩
          case measure => have := hlt.out; simp [intOf]; omega
      · have hxt : Hid (x * 2 = xt x) := by show _ = _; unfold xt; rw [if_neg h2]
        rcases hpar with ⟨hp, hpb⟩ | ⟨hp, hpb⟩
        · have hg3 : Hid (gm f (xt x) (y / 2) (o ^^^ x) = gmul a b) := by have := hg2.out; rw [if_pos hp] at this; exact this
          clear hp
          go_wp2_with fail
          go_round
          case rel => exact ⟨y / 2, xt x, o ^^^ x, f, by go_num, by rw [← hxt.out]; rfl, rfl, by omega, hxl, hox, hf2, hg3⟩
          case measure => have := hlt.out; simp [intOf]; omega
        · have hg3 : Hid (gm f (xt x) (y / 2) o = gmul a b) := by have := hg2.out; rw [if_neg (by omega)] at this; exact this
          clear hp
          go_wp2_with fail
          go_round
          case rel => exact ⟨y / 2, xt x, o, f, by go_num, by rw [← hxt.out]; rfl, rfl, by omega, hxl, ho, hf2, hg3⟩
          case measure => have := hlt.out; simp [intOf]; omega

set_option maxHeartbeats 1000000 in
theorem field_Pow (a n : Nat) (w : World) (ha : a < 256) (hn : n < 9223372036854775808) :
    Calls Try.prog 115 #[.int .u8 a, .int .i64 n] w fun e w' => e = .returned (.tuple #[.int .u8 (gpow a n : Nat), .int .i64 0]) ∧ w = w' := by
  go_enter Try.func115, Try.ntmps115
  go_wp2_with fail
  go_loop [0, 1, 6] (fun va vn vo => ∃ x m o : Nat, va = .int .u8 x ∧ vn = .int .i64 m ∧ vo = .int .u8 o ∧ x < 256 ∧ m < 9223372036854775808 ∧ o < 256 ∧ Hid (gmul o (gpow x m) = gpow a n)) (fun _ vn _ => (intOf vn).toNat)
  case atStart => exact ⟨a, n, 1, rfl, rfl, rfl, ha, hn, by omega, by show _ = _; rw [one_gmul (gpow_lt n)]⟩
  case round =>
    obtain ⟨x, m, o, rfl, rfl, rfl, hx, hm, ho, hg⟩ := hrel
    by_cases h0 : m = 0
    · subst h0
      have hR : Hid (o = gpow a n) := by have := hg.out; simp only [gpow] at this; rw [gmul_one ho] at this; exact this
      go_wp2_with fail
      go_ret2
      exact ⟨by rw [← hR.out]; rfl, rfl⟩
    · have hpar : (m % 2 = 1 ∧ (bits .and .i64 (m : Int) 1 == 1) = true) ∨ (m % 2 = 0 ∧ (bits .and .i64 (m : Int) 1 == 1) = false) := by
        rw [i64_and_one m hm]
        rcases Nat.mod_two_eq_zero_or_one m with h | h <;> simp [h]
      have hlt : Hid (m / 2 < m) := Nat.div_lt_self (by omega) (by omega)
      have hsq : Hid (gpow (gmul x x) (m / 2) = gpow x (2 * (m / 2))) := gpow_sq hx _
      have hxx : gmul x x < 256 := gmul_lt hx
      rcases hpar with ⟨hp, hpb⟩ | ⟨hp, hpb⟩
      · have hg2 : Hid (gmul (gmul o x) (gpow (gmul x x) (m / 2)) = gpow a n) := by
          show _ = _
          rw [hsq.out, ← hg.out, gmul_assoc ho hx (gpow_lt _)]
          congr 1
          rw [gmul_comm hx (gpow_lt _)]
          show gpow x (2 * (m / 2) + 1) = _
          congr 1; omega
        clear hp
        have hox : gmul o x < 256 := gmul_lt ho
        go_wp2_with fail
        refine (field_Mul o x _ ho hx).mono ?_; rintro e w' ⟨rfl, rfl⟩
        go_wp2_with fail
        refine (field_Mul x x _ hx hx).mono ?_; rintro e w' ⟨rfl, rfl⟩
        go_wp2_with fail
        go_round
        case rel => exact ⟨gmul x x, m / 2, gmul o x, rfl, by go_num, rfl, hxx, by omega, hox, hg2⟩
        case measure => have := hlt.out; simp [intOf]; omega
      · have hg2 : Hid (gmul o (gpow (gmul x x) (m / 2)) = gpow a n) := by
          show _ = _
          rw [hsq.out, ← hg.out]
          congr 2; omega
        clear hp
        go_wp2_with fail
        refine (field_Mul x x _ hx hx).mono ?_; rintro e w' ⟨rfl, rfl⟩
        go_wp2_with fail
        go_round
        case rel => exact ⟨gmul x x, m / 2, o, rfl, by go_num, rfl, hxx, by omega, ho, hg2⟩
        case measure => have := hlt.out; simp [intOf]; omega
set_option maxHeartbeats 400000 in
theorem field_Pow_bad (a n : Int) (w : World) (hn : n < 0) :
    Calls Try.prog 115 #[.int .u8 a, .int .i64 n] w fun e w' => e = .returned (.tuple #[.int .u8 0, .int .i64 1]) ∧ w = w' := by
  go_enter Try.func115, Try.ntmps115
  go_wp2_with fail
  go_ret2
  exact ⟨rfl, rfl⟩

set_option maxHeartbeats 400000 in
theorem field_Inv (a : Nat) (w : World) (ha : a < 256) (h0 : a ≠ 0) :
    Calls Try.prog 101 #[.int .u8 a] w fun e w' => e = .returned (.tuple #[.int .u8 (ginv a : Nat), .int .i64 0]) ∧ w = w' := by
  have hz : ((a : Int) == 0) = false := by simp; omega
  have hi : Hid (ginv a = gpow a 254) := ginv_pow ha
  have c := Lib.hid (field_Pow a 254 w ha (by omega))
  go_enter Try.func101, Try.ntmps101
  go_wp2_with (go_at_call 115; refine (c.out).mono ?_; rintro e w' ⟨rfl, rfl⟩)
  go_ret2
  exact ⟨by rw [hi.out]; rfl, rfl⟩
set_option maxHeartbeats 400000 in
theorem field_Inv_zero (w : World) :
    Calls Try.prog 101 #[.int .u8 0] w fun e w' => e = .returned (.tuple #[.int .u8 0, .int .i64 5]) ∧ w = w' := by
  go_enter Try.func101, Try.ntmps101
  go_wp2_with fail
  go_ret2
  exact ⟨rfl, rfl⟩

end Go.Proofs.Ytgdcmebhopjfaaa
namespace Go.Proofs.Ytgdcmebhopjfaaa
open Go.RowKit

theorem mod_next (b k : Nat) : b % 2 ^ k ^^^ (b / 2 ^ k % 2) * 2 ^ k = b % 2 ^ (k + 1) := by
  apply Nat.eq_of_testBit_eq
  intro j
  rw [Nat.testBit_xor, Nat.testBit_mod_two_pow, Nat.testBit_mod_two_pow]
  have hb : b.testBit k = decide (b / 2 ^ k % 2 = 1) := Nat.testBit_eq_decide_div_mod_eq
  rcases Nat.mod_two_eq_zero_or_one (b / 2 ^ k) with h | h
  · rw [h] at hb ⊢
    simp only [Nat.zero_mul, Nat.zero_testBit, Bool.xor_false]
    by_cases hj : j = k
    · subst hj; simp [hb]
    · have : (j < k) ↔ (j < k + 1) := by omega
      simp [this]
  · rw [h] at hb ⊢
    simp only [Nat.one_mul]
    by_cases hj : j = k
    · subst hj; rw [Nat.testBit_two_pow_self]; simp [hb]
    · rw [Nat.testBit_two_pow_of_ne (by omega)]
      have : (j < k) ↔ (j < k + 1) := by omega
      simp [this]
theorem cm_step (C a b i k : Nat) : (C ^^^ (a / 2 ^ i % 2 * (b % 2 ^ k)) * 2 ^ i) ^^^ (a / 2 ^ i % 2 * (b / 2 ^ k % 2)) * 2 ^ (i + k) = C ^^^ (a / 2 ^ i % 2 * (b % 2 ^ (k + 1))) * 2 ^ i := by
  rw [Nat.xor_assoc]
  congr 1
  rcases Nat.mod_two_eq_zero_or_one (a / 2 ^ i) with h | h
  · simp [h]
  · rw [h]
    simp only [Nat.one_mul]
    rw [← mod_next b k, mul_pow_xor]
    congr 1
    rw [Nat.mul_assoc, ← Nat.pow_add, Nat.add_comm k i]
set_option maxHeartbeats 1000000 in
theorem ref_Times (a b : Nat) (w : World) (ha : a < 256) (hb : b < 256) :
    Calls Try.prog 46 #[.int .u8 a, .int .u8 b] w fun e w' => e = .returned (.int .u8 (gmul a b : Nat)) ∧ ∃ n, w' = w.drewN n := by
  go_enter Try.func46, Try.ntmps46
  go_wp2_with fail
  go_loopw [5, 9] (fun vx vi wr => ∃ i x : Nat, vi = .int .i64 i ∧ vx = .int .i64 x ∧ i ≤ 8 ∧ x < 32768 ∧ Hid (x = cmulN i a b) ∧ ∃ n, wr = w.drewN n) (fun _ vi _ => 8 - (intOf vi).toNat)
  case atStart => exact ⟨0, 0, rfl, rfl, by omega, by omega, by show _ = _; rfl, 0, rfl⟩
  case round =>
    obtain ⟨i, x, rfl, rfl, hi, hx, hxe, n, rfl⟩ := hrel
    by_cases hi8 : i < 8
    · go_wp2_with fail
      obtain ⟨wo, hwo⟩ : ∃ wo : World, wo = w.drewN n := ⟨_, rfl⟩
      go_loopw [5, 12] (fun vx vk wr => ∃ k y : Nat, vk = .int .i64 k ∧ vx = .int .i64 y ∧ k ≤ 8 ∧ y < 32768 ∧ Hid (y = cmulN i a b ^^^ (a / 2 ^ i % 2 * (b % 2 ^ k)) * 2 ^ i) ∧ ∃ n, wr = w.drewN n) (fun _ vk _ => 8 - (intOf vk).toNat)
      case atStart => exact ⟨0, x, rfl, rfl, by omega, hx, by show _ = _; rw [← hxe.out]; simp [Nat.mod_one], n, rfl⟩
      case round =>
        obtain ⟨k, y, rfl, rfl, hk, hy, hye, n2, rfl⟩ := hrel
        by_cases hk8 : k < 8
        · go_wp2_with fail
          obtain ⟨p, hp⟩ : ∃ p, a / 2 ^ i % 2 = p := ⟨_, rfl⟩
          obtain ⟨q, hq⟩ : ∃ q, b / 2 ^ k % 2 = q := ⟨_, rfl⟩
          obtain ⟨r, hr⟩ : ∃ r, p * q = r := ⟨_, rfl⟩
          obtain ⟨S, hS⟩ : ∃ S, r * 2 ^ (i + k) = S := ⟨_, rfl⟩
          have hp1 : p ≤ 1 := by omega
          have hq1 : q ≤ 1 := by omega
          have hr1 : r ≤ 1 := by rw [← hr]; exact Nat.mul_le_mul hp1 hq1
          have hS1 : S ≤ 16384 := by
            rw [← hS]
            have h2 : 2 ^ (i + k) ≤ 2 ^ 14 := Nat.pow_le_pow_right (by omega) (by omega)
            have := Nat.mul_le_mul hr1 h2
            omega
          have e1 : bits .and .u8 ((a : Int) / 2 ^ i) 1 = (p : Int) := by
            have h1 : ((a : Int) / 2 ^ i) = ((a / 2 ^ i : Nat) : Int) := by push_cast; rfl
            rw [h1, u8_and_one _ (Nat.lt_of_le_of_lt (Nat.div_le_self _ _) ha), hp]
          have e2 : bits .and .u8 ((b : Int) / 2 ^ k) 1 = (q : Int) := by
            have h1 : ((b : Int) / 2 ^ k) = ((b / 2 ^ k : Nat) : Int) := by push_cast; rfl
            rw [h1, u8_and_one _ (Nat.lt_of_le_of_lt (Nat.div_le_self _ _) hb), hq]
          have e3 : IntKind.i64.wrap (p : Int) = p := IntWalk.i64_in _ (by omega)
          have e4 : IntKind.i64.wrap (q : Int) = q := IntWalk.i64_in _ (by omega)
          have e5 : (p : Int) * (q : Int) = (r : Int) := by rw [← hr]; push_cast; rfl
          have e5' : IntKind.i64.wrap (r : Int) = r := IntWalk.i64_in _ (by omega)
          have e6 : IntKind.i64.wrap ((i : Int) + k) = (i : Int) + k := IntWalk.i64_in _ (by omega)
          have e6' : ((i : Int) + k).toNat = i + k := by omega
          have e6'' : (0 : Int) ≤ (i : Int) + k := by omega
          have e6''' : (i : Int) + k ≤ 64 := by omega
          have e7 : IntKind.i64.wrap ((r : Int) * 2 ^ (i + k)) = (S : Int) := by
            have h1 : ((r : Int) * 2 ^ (i + k)) = (S : Int) := by rw [← hS]; push_cast; rfl
            rw [h1]; exact IntWalk.i64_in _ (by omega)
          have e8 := i64_xor_nat y S (by omega) (by omega)
          have hyS : y ^^^ S < 32768 := Nat.xor_lt_two_pow (n := 15) (by omega) (by omega)
          have hnew : Hid (y ^^^ S = cmulN i a b ^^^ (a / 2 ^ i % 2 * (b % 2 ^ (k + 1))) * 2 ^ i) := by
            show _ = _
            rw [hye.out, ← hS, ← hr, ← hp, ← hq]; exact cm_step _ _ _ _ _
          clear hp hq hr hS
          go_quiet (fail)
          clear e1 e2 e3 e4 e5 e5' e6 e6' e6'' e6''' e7 e8
          go_wp2_with fail
          go_roundw
          case rel => exact ⟨k + 1, y ^^^ S, by go_num, rfl, by omega, hyS, hnew, _, rfl⟩
          case measure => simp [intOf]; omega
        · obtain rfl : k = 8 := by omega
          have hfin : Hid (y = cmulN (i + 1) a b) := by
            show _ = _
            rw [hye.out, Nat.mod_eq_of_lt (show b < 2 ^ 8 from hb)]; rfl
          go_wp2_with fail
          go_roundw
          case rel => exact ⟨i + 1, y, by go_num, rfl, by omega, hy, hfin, _, rfl⟩
          case measure => simp [intOf]; omega
    · obtain rfl : i = 8 := by omega
      go_wp2_with fail
      go_loop [5, 8] (fun vx vk => ∃ j y : Nat, vk = .int .i64 ((j : Int) + 7) ∧ vx = .int .i64 y ∧ j ≤ 7 ∧ y < 32768 ∧ Hid (redN j y = redN 7 x)) (fun _ vk => (intOf vk).toNat)
      case atStart => exact ⟨7, x, rfl, rfl, by omega, hx, by show _ = _; rfl⟩
      case round =>
        obtain ⟨j, y, rfl, rfl, hj, hy, hred⟩ := hrel
        cases j with
        | zero =>
          have hfin : Hid (y % 256 = gmul a b) := by
            show _ = _
            rw [← timesN_eq ha hb]
            have h1 : y = redN 7 x := hred.out
            rw [h1, hxe.out]; rfl
          have hwr : IntKind.u8.wrap (y : Int) = ((y % 256 : Nat) : Int) := by rw [IntKind.wrap_u8]; rfl
          go_wp2_with fail
          go_ret
          exact ⟨by first | exact ret_u8 hfin.out | (rw [← hfin.out]; rfl), _, rfl⟩
        | succ j =>
          have h1 : ((y : Int) / 2 ^ (j + 1 + 7)) = ((y / 2 ^ (j + 8) : Nat) : Int) := by push_cast; rfl
          have h2 : bits .and .i64 ((y : Int) / 2 ^ (j + 1 + 7)) 1 = ((y / 2 ^ (j + 8) % 2 : Nat) : Int) := by
            rw [h1, i64_and_one _ (Nat.lt_of_le_of_lt (Nat.div_le_self _ _) (by omega))]
          have hC : 285 * 2 ^ j ≤ 18240 := by
            have h3 : 2 ^ j ≤ 2 ^ 6 := Nat.pow_le_pow_right (by omega) (by omega)
            omega
          have c1 : ((285 : Int) * 2 ^ j) = ((285 * 2 ^ j : Nat) : Int) := by rw [Int.natCast_mul, Int.natCast_pow]; rfl
          have t1 : ((j : Int) + 1 + 7 - 8).toNat = j := by omega
          have c2 : (0 : Int) ≤ 285 * 2 ^ j := by rw [c1]; omega
          have c3 : ((285 : Int) * 2 ^ j) ≤ 18240 := by rw [c1]; omega
          have c4 : IntKind.i64.wrap ((285 : Int) * 2 ^ j) = 285 * 2 ^ j := IntWalk.i64_in _ (by omega)
          have e8 : bits .xor .i64 (y : Int) (285 * 2 ^ j) = ((y ^^^ 285 * 2 ^ j : Nat) : Int) := by
            rw [c1]; exact i64_xor_nat y _ (by omega) (by omega)
          have hyC : y ^^^ 285 * 2 ^ j < 32768 := Nat.xor_lt_two_pow (n := 15) (by omega) (by omega)
          have hr2 : Hid (redN j (if y / 2 ^ (j + 8) % 2 = 1 then y ^^^ 285 * 2 ^ j else y) = redN 7 x) := hred.out
          rcases Nat.mod_two_eq_zero_or_one (y / 2 ^ (j + 8)) with h | h
          · have hb2 : (bits .and .i64 ((y : Int) / 2 ^ (j + 1 + 7)) 1 == 1) = false := by rw [h2, h]; rfl
            have hr3 : Hid (redN j y = redN 7 x) := by have := hr2.out; rw [if_neg (by omega)] at this; exact this
            clear h h1 h2 c1 hC
            go_wp2_with fail
            go_round
            case rel => exact ⟨j, y, by go_num, rfl, by omega, hy, hr3⟩
            case measure => simp only [intOf]; omega
          · have hb2 : (bits .and .i64 ((y : Int) / 2 ^ (j + 1 + 7)) 1 == 1) = true := by rw [h2, h]; rfl
            have hr3 : Hid (redN j (y ^^^ 285 * 2 ^ j) = redN 7 x) := by have := hr2.out; rw [if_pos h] at this; exact this
            clear h h1 h2 c1 hC
            go_wp2_with fail
            go_round
            case rel => exact ⟨j, y ^^^ 285 * 2 ^ j, by go_num, rfl, by omega, hyC, hr3⟩
            case measure => simp only [intOf]; omega

set_option maxHeartbeats 1000000 in
theorem ref_Undo (a : Nat) (w : World) (ha : a < 256) :
    Calls Try.prog 54 #[.int .u8 a] w fun e w' => e = .returned (.int .u8 (ginv a : Nat)) ∧ ∃ n, w' = w.drewN n := by
  have hu : Hid (∀ k, gpow a (2 ^ k) < 256) := fun k => gpow_lt _
  go_enter Try.func54, Try.ntmps54
  go_wp2_with fail
  go_loopw [0, 3, 4] (fun va vo vi wr => ∃ i x o : Nat, vi = .int .i64 i ∧ va = .int .u8 x ∧ vo = .int .u8 o ∧ i ≤ 7 ∧ x < 256 ∧ o < 256 ∧ Hid (x = gpow a (2 ^ i)) ∧ Hid (o = gpow a (2 ^ (i + 1) - 2)) ∧ ∃ n, wr = w.drewN n) (fun _ _ vi _ => 7 - (intOf vi).toNat)
  case atStart => exact ⟨0, a, 1, rfl, rfl, rfl, by omega, ha, by omega, by show _ = _; rw [Nat.pow_zero, gpow_one ha], by show _ = _; rfl, 0, rfl⟩
  case round =>
    obtain ⟨i, x, o, rfl, rfl, rfl, hi, hx, ho, hxe, hoe, n, rfl⟩ := hrel
    by_cases h7 : i < 7
    · have hxx : gmul x x < 256 := gmul_lt hx
      have hx2 : Hid (gmul x x = gpow a (2 ^ (i + 1))) := by
        show _ = _
        rw [hxe.out, ← gpow_add ha, Nat.pow_succ]; congr 1; omega
      have ho2 : gmul o (gmul x x) < 256 := gmul_lt ho
      have hoe2 : Hid (gmul o (gmul x x) = gpow a (2 ^ (i + 1 + 1) - 2)) := by
        show _ = _
        rw [hx2.out, hoe.out, ← gpow_add ha]
        congr 1
        have : 2 ≤ 2 ^ (i + 1) := Nat.pow_le_pow_right (n := 2) (by omega) (show 1 ≤ i + 1 by omega)
        rw [Nat.pow_succ 2 (i + 1)]; omega
      go_wp2_with fail
      refine (ref_Times x x _ hx hx).mono ?_; rintro e w' ⟨rfl, n2, rfl⟩
      go_wp2_with fail
      refine (ref_Times o (gmul x x) _ ho hxx).mono ?_; rintro e w' ⟨rfl, n3, rfl⟩
      go_wp2_with fail
      go_roundw
      case rel => exact ⟨i + 1, gmul x x, gmul o (gmul x x), by go_num, rfl, rfl, by omega, hxx, ho2, hx2, hoe2, _, rfl⟩
      case measure => simp [intOf]; omega
    · obtain rfl : i = 7 := by omega
      have hfin : Hid (o = ginv a) := by show _ = _; rw [hoe.out, ginv_pow ha]
      go_wp2_with fail
      go_ret
      exact ⟨ret_u8 hfin.out, _, rfl⟩

set_option maxHeartbeats 1000000 in
theorem ref_Power (a n : Nat) (w : World) (ha : a < 256) (hn : n < 9223372036854775808) :
    Calls Try.prog 50 #[.int .u8 a, .int .i64 n] w fun e w' => e = .returned (.int .u8 (gpow a n : Nat)) ∧ ∃ k, w' = w.drewN k := by
  obtain ⟨N, hN⟩ : ∃ N, N = if 255 < n then (n - 1) % 255 + 1 else n := ⟨_, rfl⟩
  have hNb : N ≤ 255 := by rw [hN]; split <;> omega
  have hR : Hid (gpow a N = gpow a n) := by
    show _ = _
    rw [hN]
    split
    · exact gpow_red ha n (by omega)
    · rfl
  by_cases h : 255 < n
  · have hd : decide ((255 : Int) < n) = true := by simp; omega
    have hNe1 : ((n : Int) - 1) % 255 + 1 ≤ (N : Int) := by rw [hN, if_pos h]; omega
    have hNe2 : (N : Int) ≤ ((n : Int) - 1) % 255 + 1 := by rw [hN, if_pos h]; omega
    clear hN
    go_enter Try.func50, Try.ntmps50
    go_wp2_with fail
    go_loopw [5, 13] (fun vo vi wr => ∃ i o : Nat, vi = .int .i64 i ∧ vo = .int .u8 o ∧ i ≤ N ∧ o < 256 ∧ Hid (o = gpow a i) ∧ ∃ k, wr = w.drewN k) (fun _ vi _ => N - (intOf vi).toNat)
    case atStart => exact ⟨0, 1, rfl, rfl, by omega, by omega, by show _ = _; rfl, 0, rfl⟩
    case round =>
      obtain ⟨i, o, rfl, rfl, hi, ho, hoe, k, rfl⟩ := hrel
      by_cases hiN : i < N
      · have hoa : gmul o a < 256 := gmul_lt ho
        have hoe2 : Hid (gmul o a = gpow a (i + 1)) := by show _ = _; rw [hoe.out]; rfl
        go_wp2_with (go_at_call 46; refine (ref_Times o a _ ho ha).mono ?_; rintro e w' ⟨rfl, n2, rfl⟩)
        go_roundw
        case rel => first | exact ⟨i + 1, gmul o a, by go_num, rfl, by omega, hoa, hoe2, _, rfl⟩ | ((repeat apply Exists.intro); exact ⟨⟨i + 1, gmul o a, by go_num, rfl, by omega, hoa, hoe2, _, rfl⟩, rfl⟩)
        case measure => simp [intOf]; omega
      · obtain rfl : i = N := by omega
        have hfin : Hid (o = gpow a n) := by show _ = _; rw [hoe.out, hR.out]
        go_wp2_with fail
        go_ret
        exact ⟨ret_u8 hfin.out, _, rfl⟩
  · have hNe : n = N := by rw [hN, if_neg h]
    subst hNe
    have hd : decide ((255 : Int) < n) = false := by simp; omega
    clear hN
    go_enter Try.func50, Try.ntmps50
    go_wp2_with fail
    go_loopw [5, 13] (fun vo vi wr => ∃ i o : Nat, vi = .int .i64 i ∧ vo = .int .u8 o ∧ i ≤ n ∧ o < 256 ∧ Hid (o = gpow a i) ∧ ∃ k, wr = w.drewN k) (fun _ vi _ => n - (intOf vi).toNat)
    case atStart => exact ⟨0, 1, rfl, rfl, by omega, by omega, by show _ = _; rfl, 0, rfl⟩
    case round =>
      obtain ⟨i, o, rfl, rfl, hi, ho, hoe, k, rfl⟩ := hrel
      by_cases hiN : i < n
      · have hoa : gmul o a < 256 := gmul_lt ho
        have hoe2 : Hid (gmul o a = gpow a (i + 1)) := by show _ = _; rw [hoe.out]; rfl
        go_wp2_with (go_at_call 46; refine (ref_Times o a _ ho ha).mono ?_; rintro e w' ⟨rfl, n2, rfl⟩)
        go_roundw
        case rel => first | exact ⟨i + 1, gmul o a, by go_num, rfl, by omega, hoa, hoe2, _, rfl⟩ | ((repeat apply Exists.intro); exact ⟨⟨i + 1, gmul o a, by go_num, rfl, by omega, hoa, hoe2, _, rfl⟩, rfl⟩)
        case measure => simp [intOf]; omega
      · obtain rfl : i = n := by omega
        have hfin : Hid (o = gpow a i) := hoe
        go_wp2_with fail
        go_ret
        exact ⟨ret_u8 hfin.out, _, rfl⟩
end Go.Proofs.Ytgdcmebhopjfaaa
namespace Go.Proofs.Ytgdcmebhopjfaaa
open Go.RowKit

theorem u8Info : ElemRow Try.prog 5 (.int .u8 0) 1 1 := elemRow_of (by kernel_rfl) rfl (by omega)
def ClonePost (base : Nat) (xs : List Value) (n : Nat) (w : World) (e : Ending) (w' : World) : Prop :=
  ∃ v, e = .returned v ∧ w'.ownsRow base 5 1 v n xs ∧ Below base w w'
set_option maxHeartbeats 1000000 in
set_option maxRecDepth 20000 in
theorem clone_u8 (n : Nat) (xs : List Value) (ao : Option Addr) (cap base : Nat) (w : World) (hn : n ≤ 1000000000) (hl : xs.length = n) (hnone : ao = none → n = 0 ∧ cap = 0) (hR : Hid (Reads w ao xs)) (h1 : Hid (∀ u ∈ xs, u.oneCell' = true)) (hb : base ≤ w.heap.size) :
    Calls Try.prog 45 #[.slice ao n cap] w (ClonePost base xs n w) := by
  have HL : Hid (xs.length = n * 1) := by show _ = _; omega
  have HN := Lib.hid hnone
  cases ao with
  | none =>
    obtain ⟨rfl, rfl⟩ := hnone rfl
    have hx : Hid (xs = []) := List.eq_nil_of_length_eq_zero hl
    have heq := Lib.run_eql_slice_nil (P := Try.prog) w 59 5 none 0 0 0 0 Try.underlying59
    clear hl hnone
    go_enter Try.func45, Try.ntmps45
    go_wp2_with fail
    go_ret
    refine ⟨_, rfl, ?_, Below.refl _ _⟩
    rw [hx.out]; exact World.ownsRow_nil _ _ _ _
  | some a =>
    have heq := Lib.run_eql_slice_nil (P := Try.prog) w 59 5 (some a) n cap 0 0 Try.underlying59
    clear hl hnone
    have hown : Hid ((w.alloc (.cells #[] 5)).ownsRow base 5 1 (.slice (some ⟨w.heap.size, 0, none⟩) 0 0) 0 []) := own_lit w base 5 [] hb (by unfold maxLen; simp)
    have hR2 : Hid (Reads (w.alloc (.cells #[] 5)) (some a) xs) := hR.out.alloc _
    have hbel : Hid (Below base w (w.alloc (.cells #[] 5))) := (Below.refl _ _).alloc hb _
    go_enter Try.func45, Try.ntmps45
    go_wp2_with (at_builtin; go_must (refine app_all rfl (.tmp 5) (.tmp 6) _ rfl base 5 _ 1 1 Try.underlying59 u8Info _ 0 [] (by rfl) hown.out (some a) n cap xs (by rfl) (fun h => by cases h) HL.out hR2.out h1.out (by unfold maxLen; omega) (by omega) (Nat.le_trans hb hbel.out.size) ?_); intro v2 w2 hown2 hgr2 hb2)
    go_ret
    refine ⟨v2, rfl, ?_, hbel.out.trans hb2⟩
    simpa using hown2
end Go.Proofs.Ytgdcmebhopjfaaa
namespace Go.Proofs.Ytgdcmebhopjfaaa
open Go.RowKit

theorem ginv_zero : ginv 0 = 0 := by unfold ginv; simp [gmul_zero]
theorem field_Inv_any (a : Nat) (w : World) (ha : a < 256) :
    Calls Try.prog 101 #[.int .u8 a] w fun e w' => (∃ E : Int, e = .returned (.tuple #[.int .u8 (ginv a : Nat), .int .i64 E])) ∧ w = w' := by
  by_cases h : a = 0
  · subst h
    refine (field_Inv_zero w).mono ?_
    rintro e w' ⟨rfl, rfl⟩
    exact ⟨⟨5, by rw [ginv_zero]; rfl⟩, rfl⟩
  · refine (field_Inv a w ha h).mono ?_
    rintro e w' ⟨rfl, rfl⟩
    exact ⟨⟨0, rfl⟩, rfl⟩
/-- Elements as bytes, and as ints. -/
def gfV (f : Nat → GF) (j : Nat) : Value := .int .u8 ((f j).val : Int)
def giV (f : Nat → GF) (j : Nat) : Value := .int .i64 ((f j).val : Int)
theorem wrap_u8 (a : Nat) (h : a < 256) : IntKind.u8.wrap (a : Int) = (a : Int) := by
  simp only [IntKind.wrap, IntKind.signed, IntKind.bits]
  simp
  omega
def RowPost (xs ys : Nat → GF) (k n : Nat) (w : World) (e : Ending) (w' : World) : Prop :=
  ∃ g cap, e = .returned (.slice (some ⟨g, 0, none⟩) n cap) ∧ Own w' w.heap.size 5 g n cap (gfV fun j => lag xs ys k (gf j)) ∧ Below w.heap.size w w'
/-- The row while its place x is made of i terms. -/
def rowX (xs ys : Nat → GF) (k x i : Nat) (j : Nat) : GF := if j < x then lag xs ys k (gf j) else if j = x then lagS xs ys k (gf x) i else 0
set_option maxRecDepth 100000 in
set_option maxHeartbeats 4000000 in
theorem reed_Row (xs ys : Nat → GF) (k n : Nat) (ao bo : Option Addr) (cap cap2 : Nat) (w : World) (hk : k ≤ 256) (hn : n ≤ 256) (hx : Hid (Reads w ao (rowF k (giV xs)))) (hy : Hid (Reads w bo (rowF k (gfV ys)))) :
    Calls Try.prog 121 #[.slice ao k cap, .slice bo k cap2, .int .i64 n] w (RowPost xs ys k n w) := by
  go_enter Try.func121, Try.ntmps121
  go_wp2_with (at_make; refine make_own rfl _ _ 59 rfl w.heap.size 5 _ 1 Try.underlying59 u8Info rfl _ _ _ _ n (by rfl) (by rfl) rfl rfl (by omega) (by unfold maxLen; omega) (Nat.le_refl _) ?_; intro w1 hown hg1)
  obtain ⟨g, hgs⟩ : ∃ g, w.heap.size = g := ⟨_, rfl⟩
  have hb1 : Hid (Below w.heap.size w w1) := below_of_grown hg1 (Nat.le_refl _) (by intro k hk; cases hk)
  have hO0 := hown.congr (f' := gfV (rowX xs ys k 0 0)) fun j _ => by
    unfold gfV rowX
    rw [if_neg (by omega)]
    split <;> rfl
  have hO1 : Hid (Own w1 w.heap.size 5 g n n (gfV (rowX xs ys k 0 0))) := by
    have e : Own w1 w.heap.size 5 w.heap.size n n (gfV (rowX xs ys k 0 0)) = Own w1 w.heap.size 5 g n n (gfV (rowX xs ys k 0 0)) := by rw [hgs]
    show Own _ _ _ _ _ _ _
    rw [← e]; exact hO0
  rw [hgs]
  clear hown hg1 hO0 hgs
  go_loopw [20] (fun vx wr => ∃ x : Nat, vx = .int .i64 x ∧ x ≤ n ∧ Hid (Own wr w.heap.size 5 g n n (gfV (rowX xs ys k x 0))) ∧ Hid (Below w.heap.size w wr)) (fun vx _ => n - (intOf vx).toNat)
  case atStart => exact ⟨0, rfl, by omega, hO1, hb1⟩
  case round =>
    obtain ⟨x, rfl, hxn, hO, hb⟩ := hrel
    by_cases hx1 : x < n
    · have hx2 : x < 256 := by omega
      go_wp2_with fail
      go_loopw [25] (fun vi wi => ∃ i : Nat, vi = .int .i64 i ∧ i ≤ k ∧ Hid (Own wi w.heap.size 5 g n n (gfV (rowX xs ys k x i))) ∧ Hid (Below w.heap.size w wi)) (fun vi _ => k - (intOf vi).toNat)
      case atStart => exact ⟨0, rfl, by omega, hO, hb⟩
      case round =>
        obtain ⟨i, rfl, hik, hO2, hb2⟩ := hrel
        by_cases hi1 : i < k
        · obtain ⟨b1, o1, rfl, c1⟩ := (hx.out.below hb2.out) i _ (rowF_get (giV xs) hi1)
          obtain ⟨b2, o2, rfl, c2⟩ := (hy.out.below hb2.out) i _ (rowF_get (gfV ys) hi1)
          obtain ⟨p, hp⟩ : ∃ p, (xs i).val = p := ⟨_, rfl⟩
          have hp1 : p < 256 := by rw [← hp]; exact (xs i).lt
          have hyi : (ys i).val < 256 := (ys i).lt
          unfold giV at c1
          unfold gfV at c2
          rw [hp] at c1
          have HP := Lib.hid hp
          have hX := Lib.hid (hx.out.below hb2.out)
          clear hp
          go_wp2_with fail
          go_loop [11, 36] (fun vt vm => ∃ m : Nat, vm = .int .i64 m ∧ m ≤ k ∧ ∃ t : Nat, vt = .int .u8 t ∧ t < 256 ∧ Hid (t = (lagT xs (ys i) i (gf x) m).val)) (fun _ vm => k - (intOf vm).toNat)
          case atStart => exact ⟨0, rfl, by omega, (ys i).val, rfl, hyi, rfl⟩
          case round =>
            obtain ⟨m, rfl, hmk, t, rfl, ht, hte⟩ := hrel
            by_cases hm1 : m < k
            · obtain ⟨b3, o3, ha3, c3⟩ := hX.out m _ (rowF_get (giV xs) hm1)
              injection ha3 with ha3
              injection ha3 with hb3 ho3
              subst hb3 ho3
              obtain ⟨q, hq⟩ : ∃ q, (xs m).val = q := ⟨_, rfl⟩
              have hq1 : q < 256 := by rw [← hq]; exact (xs m).lt
              unfold giV at c3
              rw [hq] at c3
              by_cases hmi : m = i
              · have e1 : ((m : Int) != (i : Int)) = false := by simp; omega
                have hnew : Hid (t = (lagT xs (ys i) i (gf x) (m + 1)).val) := by
                  show _ = _
                  rw [lagT, if_pos hmi]; exact hte.out
                have HM := Lib.hid hmi
                clear hmi hq
                go_wp2_with fail
                go_round
                case rel => exact ⟨m + 1, by go_num, by omega, t, rfl, ht, hnew⟩
                case measure => simp [intOf]; omega
              · have e1 : ((m : Int) != (i : Int)) = true := by simp; omega
                obtain ⟨pq, hpq⟩ : ∃ pq : Nat, p ^^^ q = pq := ⟨_, rfl⟩
                obtain ⟨xq, hxq⟩ : ∃ xq : Nat, x ^^^ q = xq := ⟨_, rfl⟩
                have hpq1 : pq < 256 := by rw [← hpq]; exact xor_lt256 hp1 hq1
                have hxq1 : xq < 256 := by rw [← hxq]; exact xor_lt256 hx2 hq1
                have e2 : bits .xor .i64 (p : Int) (q : Int) = (pq : Int) := by rw [i64_xor_nat p q (by omega) (by omega), hpq]
                have e3 : bits .xor .i64 (x : Int) (q : Int) = (xq : Int) := by rw [i64_xor_nat x q (by omega) (by omega), hxq]
                have e4 := wrap_u8 pq hpq1
                have e5 := wrap_u8 xq hxq1
                have hv1 := ginv_lt hpq1
                obtain ⟨iv, hiv⟩ : ∃ iv, ginv pq = iv := ⟨_, rfl⟩
                rw [hiv] at hv1
                obtain ⟨pr, hpr⟩ : ∃ pr, gmul xq iv = pr := ⟨_, rfl⟩
                have hpr1 : pr < 256 := by rw [← hpr]; exact gmul_lt hxq1
                obtain ⟨t2, ht2⟩ : ∃ t2, gmul t pr = t2 := ⟨_, rfl⟩
                have ht21 : t2 < 256 := by rw [← ht2]; exact gmul_lt ht
                have hnew : Hid (t2 = (lagT xs (ys i) i (gf x) (m + 1)).val) := by
                  show _ = _
                  rw [lagT, if_neg hmi, GF.mul_val, GF.mul_val, GF.inv_val, GF.sub_val, GF.sub_val, gf_val hx2, hq, HP.out, hpq, hxq, hiv, hpr, ← hte.out, ht2]
                have C1 := Lib.hid (field_Inv_any pq · hpq1)
                have C2 := Lib.hid (field_Mul xq iv · hxq1 hv1)
                have C3 := Lib.hid (field_Mul t pr · ht hpr1)
                rw [hiv] at C1
                rw [hpr] at C2
                rw [ht2] at C3
                clear hmi hq hpq hxq hiv hpr ht2
                go_wp2_with (first | (go_at_call 101; refine (C1.out _).mono ?_; rintro e w' ⟨⟨E, rfl⟩, rfl⟩) | (go_at_call 99; with_reducible refine (C2.out _).mono ?_; rintro e w' ⟨rfl, rfl⟩) | (go_at_call 99; refine (C3.out _).mono ?_; rintro e w' ⟨rfl, rfl⟩))
                go_round
                case rel => exact ⟨m + 1, by go_num, by omega, t2, rfl, ht21, hnew⟩
                case measure => simp [intOf]; omega
            · have hfin : Hid (t = (lagT xs (ys i) i (gf x) k).val) := by
                have : m = k := by omega
                show _ = _
                rw [hte.out, this]
              have c4 := hO2.out.cell hx1
              have f4 := hO2.out.frozen x
              obtain ⟨r, hr⟩ : ∃ r, (rowX xs ys k x i x).val = r := ⟨_, rfl⟩
              have hr1 : r < 256 := by rw [← hr]; exact GF.lt _
              unfold gfV at c4
              rw [hr] at c4
              obtain ⟨r2, hr2⟩ : ∃ r2, r ^^^ t = r2 := ⟨_, rfl⟩
              have e6 : bits .xor .u8 (r : Int) (t : Int) = (r2 : Int) := by rw [u8_xor_nat r t hr1 ht, hr2]
              have st := hO2.out.store x (.int .u8 (r2 : Int))
              have hO3 := Lib.hid (st.1.congr (f' := gfV (rowX xs ys k x (i + 1))) fun j _ => by
                unfold gfV
                by_cases hj : j = x
                · subst hj
                  rw [if_pos rfl, ← hr2, ← hr, hfin.out]
                  unfold rowX
                  rw [if_neg (Nat.lt_irrefl j), if_pos rfl, if_neg (Nat.lt_irrefl j), if_pos rfl]
                  rfl
                · rw [if_neg hj]
                  unfold rowX
                  rw [if_neg hj, if_neg hj])
              have hb3 := Lib.hid (hO2.out.belowStore hb2.out (Nat.le_refl _) x (.int .u8 (r2 : Int)))
              clear st hr hr2
              go_wp2_with fail
              go_roundw
              case rel => exact ⟨i + 1, by go_num, by omega, hO3, hb3⟩
              case measure => simp [intOf]; omega
        · have hO3 := Lib.hid (hO2.out.congr (f' := gfV (rowX xs ys k (x + 1) 0)) fun j _ => by
            have hik2 : i = k := by omega
            unfold gfV rowX
            by_cases hj : j < x
            · rw [if_pos hj, if_pos (by omega)]
            · rw [if_neg hj]
              by_cases hj2 : j = x
              · subst hj2
                rw [if_pos rfl, if_pos (by omega), hik2]; rfl
              · rw [if_neg hj2, if_neg (by omega)]
                split <;> rfl)
          go_wp2_with fail
          go_roundw
          case rel => exact ⟨x + 1, by go_num, by omega, hO3, hb2⟩
          case measure => simp [intOf]; omega
    · have hfin : Hid (RowPost xs ys k n w (.returned (.slice (some ⟨g, 0, none⟩) n n)) wr) := ⟨g, n, rfl, hO.out.congr fun j hj => by
        unfold gfV rowX
        rw [if_pos (by omega)], hb.out⟩
      go_wp2_with fail
      go_ret
      exact hfin.out
end Go.Proofs.Ytgdcmebhopjfaaa
namespace Go.Proofs.Ytgdcmebhopjfaaa
open Go.RowKit

theorem i64Info : ElemRow Try.prog 3 (.int .i64 0) 1 8 := elemRow_of (by kernel_rfl) rfl (by omega)
def PutPost (ys : Nat → GF) (k n : Nat) (w : World) (e : Ending) (w' : World) : Prop :=
  ∃ g cap, e = .returned (.tuple #[.slice (some ⟨g, 0, none⟩) n cap, .int .i64 0]) ∧ Own w' w.heap.size 5 g n cap (gfV fun j => lag gf ys k (gf j)) ∧ Below w.heap.size w w'
set_option maxRecDepth 20000 in
set_option maxHeartbeats 1000000 in
theorem reed_Put (ys : Nat → GF) (n N : Nat) (ao : Option Addr) (cap : Nat) (w : World) (h1 : 1 ≤ n) (h2 : n ≤ N) (h3 : N ≤ 20) (hy : Hid (Reads w ao (rowF n (gfV ys)))) :
    Calls Try.prog 55 #[.slice ao n cap, .int .i64 N] w (PutPost ys n N w) := by
  have d1 : decide ((n : Int) < 1) = false := by simp; omega
  have d2 : decide ((20 : Int) < n) = false := by simp; omega
  have d3 : decide ((N : Int) < n) = false := by simp; omega
  have d4 : decide ((20 : Int) < N) = false := by simp; omega
  have d5 : decide (N < n) = false := by simp; omega
  go_enter Try.func55, Try.ntmps55
  go_wp2_with fail
  go_loopw [6, 7, 28] (fun vo _ vx wr => ∃ x : Nat, vx = .int .i64 x ∧ x ≤ n ∧ Hid (wr.ownsRow w.heap.size 3 1 vo x (rowF x (giV gf))) ∧ Hid (Below w.heap.size w wr)) (fun _ _ vx _ => n - (intOf vx).toNat)
  case atStart => exact ⟨0, rfl, by omega, World.ownsRow_nil _ _ _ _, Below.refl _ _⟩
  case round =>
    obtain ⟨x, rfl, hxn, hrow, hb⟩ := hrel
    by_cases hx1 : x < n
    · have hv : Hid (Value.int .i64 (x : Int) = giV gf x) := by
        show _ = _
        unfold giV
        rw [gf_val (by omega)]
      go_wp2_with (at_builtin; go_must (refine app_one rfl (.tmp 31) (.tmp 33) _ rfl w.heap.size 3 _ 1 8 Try.underlying22 i64Info u6 x (rowF x (giV gf)) (by rfl) hrow.out [.int .i64 (x : Int)] (by rfl) rfl (by intro u hu; simp at hu; subst hu; rfl) (by unfold maxLen; omega) (by omega) hb.out.size ?_); intro v2 w2 hown2 hgr2 hb3)
      have hrow3 : Hid (w2.ownsRow w.heap.size 3 1 v2 (x + 1) (rowF (x + 1) (giV gf))) := by
        show World.ownsRow _ _ _ _ _ _ _
        rw [rowF_succ, ← hv.out]; exact hown2
      have hb4 := Lib.hid (hb.out.trans hb3)
      clear hown2 hgr2 hb3
      go_roundw
      case rel => exact ⟨x + 1, by go_num, by omega, hrow3, hb4⟩
      case measure => simp [intOf]; omega
    · have hx2 : x = n := by omega
      obtain ⟨ao2, cp2, hv2, hR2, hn2, hm2⟩ := own_reads hrow.out
      rw [hx2] at hR2 hv2
      subst hv2
      have HR := Lib.hid hR2
      have HY := Lib.hid (hy.out.below hb.out)
      clear hR2 hn2 hm2 hx2
      go_wp2_with fail
      refine (reed_Row gf ys n N ao2 ao cp2 cap wr (by omega) (by omega) HR HY).mono ?_
      rintro e w' ⟨g, cp3, rfl, hO, hb3⟩
      have HO : Hid (Own w' w.heap.size 5 g N cp3 (gfV fun j => lag gf ys n (gf j))) := by
        have := own_mono hO hb.out.size
        exact this
      have HB := Lib.hid (hb.out.trans (Below.mono hb3 hb.out.size))
      clear hO hb3
      go_wp2_with fail
      go_ret2
      exact ⟨g, cp3, rfl, HO.out, HB.out⟩
end Go.Proofs.Ytgdcmebhopjfaaa
namespace Go.Proofs.Ytgdcmebhopjfaaa
open Go.RowKit

theorem keep_Within (k n : Int) (w : World) (hk : -9223372036854775808 ≤ k) (hk' : k ≤ 9223372036854775807) (hn : 1 ≤ n) (hn' : n ≤ 1000000000) :
    Calls Try.prog 12 #[.int .i64 k, .int .i64 n] w fun e w' => e = .returned (.int .i64 (k % n)) ∧ ∃ m, w' = w.drewN m := by
  go_enter Try.func12, Try.ntmps12
  go_wp2_with (go_at_call 75; refine (ref_Rest k n _ hk hk' hn hn').mono ?_; rintro e w' ⟨rfl, m, rfl⟩)
  go_ret
  exact ⟨rfl, _, rfl⟩
theorem good1 (x : Int) (w : World) : Calls Try.prog 90 #[.int .i64 x] w fun e w' => e = .returned (.bool (x != 0)) ∧ w = w' := by
  go_enter Try.func90, Try.ntmps90
  go_wp2_with fail
  go_ret
  exact ⟨rfl, rfl⟩
theorem hfnG : ∀ (x : Value) (W : World), (callFunc 90 #[x]).run Try.prog W = .ok (.enter 90 #[x]) W := by
  intro x W
  show (_ : Result _) = _
  kernel_rfl
theorem good_three (ao : Option Addr) (cap : Nat) (w : World) (hR : Hid (Reads w ao [.int .i64 0, .int .i64 0, .int .i64 0])) :
    Calls Try.prog 20 #[.slice ao 3 cap] w fun e w' => e = .returned (.bool true) ∧ ∃ m, w' = w.drewN m := by
  have h := containsFunc_err 90 hfnG (fun x => x != 0) [0, 0, 0] ao cap w (by simp) hR (Lib.hid fun x _ n => (good1 x _).mono fun e w' hh => ⟨hh.1, 0, hh.2.symm⟩)
  have e : ([0, 0, 0] : List Int).any (fun x => x != 0) = false := by decide
  rw [e] at h
  have HC := Lib.hid h
  clear h e
  go_enter Try.func20, Try.ntmps20
  go_wp2_with fail
  refine HC.out.mono ?_
  rintro e w' ⟨rfl, m, rfl⟩
  go_wp2_with fail
  go_ret
  exact ⟨rfl, m, rfl⟩
theorem prodPow_cons (a : Nat × Nat) (l : List (Nat × Nat)) : prodPow (a :: l) = a.1 ^ a.2 * prodPow l := rfl
set_option maxRecDepth 20000 in
set_option maxHeartbeats 1000000 in
theorem divide_Phi (n : Nat) (w : World) (h1 : 1 ≤ n) (hn : n ≤ 1000000) :
    Calls Try.prog 24 #[.int .i64 n] w fun e w' => (∃ f : Nat, (f : Int) = phi n ∧ f ≤ n ∧ e = .returned (.tuple #[.int .i64 f, .int .i64 0])) ∧ Below w.heap.size w w' := by
  go_enter Try.func24, Try.ntmps24
  go_wp2_with fail
  refine (prime_Factor n w h1 hn).mono ?_
  rintro e w1 ⟨l, v, hF, hll, rfl, hown, hbel⟩
  obtain ⟨ao, cp, rfl, hR, hnone, hmx⟩ := own_reads hown
  have HF := Lib.hid hF
  have HR := Lib.hid hR
  have HB := Lib.hid hbel
  have HMU : Hid (phi n = valL phiG l) := mult_eq hF
  obtain ⟨len, hlen⟩ : ∃ len, l.length = len := ⟨_, rfl⟩
  rw [hlen] at hll ⊢
  have HL := Lib.hid hlen
  clear hF hR hnone hmx hown hbel hlen
  go_wp2_with fail
  go_loopw [0, 18] (fun vo vi wr => ∃ (k c : Nat), vi = .int .i64 k ∧ k ≤ len ∧ vo = .int .i64 c ∧ c ≤ n ∧ Hid ((c : Int) = valL phiG (l.take k) * (prodPow (l.drop k) : Nat)) ∧ Hid (Below w1.heap.size w1 wr)) (fun _ vi _ => len - (intOf vi).toNat)
  case atStart => exact ⟨0, n, rfl, by omega, rfl, Nat.le_refl _, Lib.hid (by
    show _ = _
    rw [List.take_zero, List.drop_zero, HF.out.prod]
    show _ = 1 * _
    rw [Int.one_mul]), Below.refl _ _⟩
  case round =>
    obtain ⟨k, c, rfl, hk, rfl, hcn, hc, hb⟩ := hrel
    by_cases hkl : k < len
    · obtain ⟨a, ha⟩ : ∃ a, l[k]? = some a := ⟨l[k]'(by rw [HL.out]; exact hkl), List.getElem?_eq_getElem _⟩
      have hma := List.mem_of_getElem? ha
      obtain ⟨P, N⟩ := a
      have hN1 := (HF.out.pr _ hma).2
      have hP2 := (HF.out.pr _ hma).1.1
      simp only at hN1 hP2
      obtain ⟨M, rfl⟩ : ∃ M, N = M + 1 := ⟨N - 1, by omega⟩
      have hdrop : l.drop k = (P, M + 1) :: l.drop (k + 1) := by
        have hlt : k < l.length := by rw [HL.out]; exact hkl
        have hge := List.getElem?_eq_getElem hlt
        rw [ha] at hge
        rw [List.drop_eq_getElem_cons hlt, ← Option.some.inj hge]
      have hstep : Hid (((c / P * (P - 1) : Nat) : Int) = valL phiG (l.take (k + 1)) * (prodPow (l.drop (k + 1)) : Nat)) := by
        have h2 := hc.out
        rw [hdrop, prodPow_cons] at h2
        have h3 := phi_step (by omega) h2
        show _ = _
        rw [take_snoc2 l k _ ha, valL_append]
        show _ = valL phiG (l.take k) * (phiG P (M + 1) * 1) * _
        rw [Int.mul_one]
        exact h3
      have hple := phi_le c P
      obtain ⟨d, hd⟩ : ∃ d, c / P = d := ⟨_, rfl⟩
      have hdc : d ≤ c := by rw [← hd]; exact Nat.div_le_self _ _
      have ed : (c : Int) / (P : Int) = (d : Int) := by rw [← hd]; push_cast; rfl
      obtain ⟨u, hu⟩ : ∃ u, d * (P - 1) = u := ⟨_, rfl⟩
      rw [hd, hu] at hstep hple
      have eu : (d : Int) * ((P : Int) - 1) = (u : Int) := by rw [← hu, show (P : Int) - 1 = ((P - 1 : Nat) : Int) by omega]; push_cast; rfl
      have wd : IntKind.i64.wrap (d : Int) = (d : Int) := IntWalk.i64_in _ (by omega)
      have wu : IntKind.i64.wrap (u : Int) = (u : Int) := IntWalk.i64_in _ (by omega)
      have hPn : P ≤ n := Nat.le_of_dvd (by omega) (by have := dvd_prodPow hma (by omega); rw [HF.out.prod] at this; exact this)
      have wP : IntKind.i64.wrap ((P : Int) - 1) = (P : Int) - 1 := IntWalk.i64_in _ (by omega)
      have hP0 : ¬ ((P : Int) = 0) := by omega
      have hP0' : ¬ (P = 0) := by omega
      have hc1 := powCells_get l k _ ha
      have hR2 := (HR.out).below hb.out
      obtain ⟨b, of, rfl, hcell1⟩ := hR2 _ _ hc1.1
      obtain ⟨b', of', hbo, hcell2⟩ := hR2 _ _ hc1.2
      simp only [Option.some.injEq, Addr.mk.injEq, and_true] at hbo
      obtain ⟨rfl, rfl⟩ := hbo
      have hcell1' : wr.cell? ⟨b, of + k * 2, none⟩ = some (.int .i64 P) := hcell1
      have hcell2' : wr.cell? ⟨b, of + k * 2 + 1, none⟩ = some (.int .i64 ((M + 1 : Nat) : Int)) := hcell2
      have cb1 : (wr.alloc (.cells #[.int .i64 P, .int .i64 ((M + 1 : Nat) : Int)] 131)).cell? ⟨wr.heap.size, 0, none⟩ = some (.int .i64 P) := by simp [World.cell?_alloc_new]
      have HB9 := Lib.hid (hb.out.alloc hb.out.size (.cells #[.int .i64 P, .int .i64 ((M + 1 : Nat) : Int)] 131))
      clear hR2 hc1 ha hma hcell1 hcell2 hdrop hd hu
      go_wp2_with fail
      go_quiet (fail)
      go_wp2_with fail
      go_roundw
      case rel => exact ⟨k + 1, u, by go_num, by omega, rfl, by omega, hstep, Lib.hid (by repeat (first | exact HB9.out | apply below_drewN | (exact hb.out.alloc hb.out.size _)))⟩
      case measure => simp [intOf]; omega
    · have hfin : Hid ((c : Int) = phi n) := by
        have hkk : k = l.length := by rw [HL.out]; omega
        have h2 := hc.out
        rw [hkk, List.take_length, List.drop_length] at h2
        show _ = _
        rw [HMU.out, h2]
        show _ * ((1 : Nat) : Int) = _
        rw [Int.natCast_one, Int.mul_one]
      go_wp2_with fail
      go_ret2
      exact ⟨⟨c, hfin.out, hcn, rfl⟩, HB.out.trans (Below.mono hb.out HB.out.size)⟩
def w57 (j : Nat) : GF := gf (if j = 0 then 5 else 7)
theorem works_row : (lag gf w57 2 (gf 2)).val = 1 := by decide +kernel
set_option maxRecDepth 20000 in
theorem top_works (w : World) : Calls Try.prog 15 #[] w fun e w' => e = .returned (.bool true) ∧ Below w.heap.size w w' := by
  have HG := Lib.hid (fun W => euclid_Gcd 12 18 W (by omega) (by omega) (by omega) (by omega))
  have eg : gI 12 18 = 6 := by decide
  rw [eg] at HG
  have HP := Lib.hid (fun W ao (hy : Reads W ao (rowF 2 (gfV w57))) => reed_Put w57 2 3 ao 2 W (by omega) (by omega) (by omega) (Lib.hid hy))
  have e57 : rowF 2 (gfV w57) = [.int .u8 5, .int .u8 7] := by rfl
  clear eg
  go_enter Try.func15, Try.ntmps15
  go_wp2_with fail
  refine (HG.out _).mono ?_
  rintro e w1 ⟨rfl, q, rfl⟩
  go_wp2_with fail
  refine (HP.out _ _ (by rw [e57]; exact reads_new (w.drewN q) #[.int .u8 5, .int .u8 7] _)).mono ?_
  rintro e w2 ⟨g, cp, rfl, hO, hb2⟩
  have c2 := hO.cell (i := 2) (by omega)
  have hv : gfV (fun j => lag gf w57 2 (gf j)) 2 = .int .u8 1 := by unfold gfV; rw [works_row]; rfl
  rw [hv] at c2
  have HB2 : Hid (Below w.heap.size w w2) := (Below.alloc (below_dr w.heap.size w q) (Nat.le_refl _) _).trans (Below.mono hb2 (by simp))
  clear hO hb2 hv HP HG
  go_wp2_with fail
  go_ret
  exact ⟨by simp, HB2.out⟩
end Go.Proofs.Ytgdcmebhopjfaaa
namespace Go.Proofs.Ytgdcmebhopjfaaa
open Go.RowKit

theorem ptsI_zero {p : Int} {l : Pts} (hb : ∀ (i : Nat) (z : Int × Int), l[i]? = some z → badP p z = false) (hd : ∀ (i : Nat) (z : Int × Int), l[i]? = some z → dupP l i z.1 = false) : ∀ n i, ptsI p l n i = 0
  | 0, _ => rfl
  | n + 1, i => by
    rw [ptsI]
    cases hz : l[i]? with
    | none => rfl
    | some z =>
      show (if badP p z = true then 1 else if dupP l i z.1 = true then 6 else ptsI p l n (i + 1)) = 0
      rw [hb i z hz, hd i z hz, if_neg (by simp), if_neg (by simp)]
      exact ptsI_zero hb hd n (i + 1)
theorem ptsE_ok {p : Int} {l : Pts} (h : PtsOk p l) : ptsE p l = 0 := by
  unfold ptsE
  rw [fldE_zero h.p1 h.p2 h.pr, if_neg (by omega), if_neg (by have := h.len; omega)]
  refine ptsI_zero (fun i z hz => ?_) (fun i z hz => ?_) _ _
  · have := h.bd i z hz
    unfold badP
    simp
    omega
  · cases hd : dupP l i z.1 with
    | false => rfl
    | true =>
      obtain ⟨j, y, hj, hy, he⟩ := dupP_iff.1 hd
      exact absurd he (h.ne i j z y hj hz hy)
theorem evp_zero (f : List Int) : evp 0 f = co f 0 := by
  cases f with
  | nil => rfl
  | cons a f =>
    unfold evp
    have h : ∀ n, evn 0 (co (a :: f)) (n + 1) = co (a :: f) 0 := by
      intro n
      induction n with
      | zero => show (0 : Int) + co (a :: f) 0 * 0 ^ 0 = _; rw [Int.pow_zero, Int.mul_one, Int.zero_add]
      | succ n ih =>
        show evn 0 (co (a :: f)) (n + 1) + co (a :: f) (n + 1) * 0 ^ (n + 1) = _
        rw [ih, Int.pow_succ, Int.mul_zero, Int.mul_zero, Int.add_zero]
    exact h f.length
set_option maxRecDepth 20000 in
set_option maxHeartbeats 1000000 in
theorem points_At_on (p : Int) (F : List Int) (l : Pts) (x : Int) (n : Nat) (ao : Option Addr) (cap : Nat) (w : World) (OP : PtsOk p l) (hp : (Lit.int .i64 p).wf = true) (hx : (Lit.int .i64 x).wf = true) (hl : l.length = n) (hc : n ≤ cap) (hR : Hid (Reads w ao (cells2 (l.map pV)))) (hF : InF p F) (hFl : F.length ≤ n) (hon : OnF p F l) :
    Calls Try.prog 19 #[.int .i64 p, .slice ao n cap, .int .i64 x] w fun e w' => e = .returned (.tuple #[.int .i64 (evp (x % p) F % p), .int .i64 0]) ∧ Below w.heap.size w w' := by
  have C1 := Lib.hid (points_Through p l n ao cap w hp hl hc hR (ptsE_ok OP))
  have HOP := Lib.hid OP
  have HP := Lib.hid hp
  have HX := Lib.hid hx
  have HU : Hid (∀ h, ThrIs p l h → h = trim F) := fun h t => thr_uniq OP t hF (by omega) hon
  clear hp hx hl OP hF hon
  go_enter Try.func19, Try.ntmps19
  go_wp2_with (first | (go_at_call 16; refine C1.out.mono ?_; rintro e w1 ⟨h, v, hthr, hb1, rfl, hown⟩; obtain ⟨a1, k1, rfl, r1, n1, kk1, kk2⟩ := own_data hown) | (go_at_call 18; refine (poly_At p h x a1 h.length k1 _ HP.out HX.out rfl (ints_B0 r1) r1 (polE_ok (hthr.pol HOP.out))).mono ?_; rintro e w2 ⟨rfl, hb2⟩))
  go_ret2
  refine ⟨?_, hb1.trans (hb2.mono hb1.size)⟩
  rw [HU.out h hthr, evp_trim]; rfl
set_option maxRecDepth 20000 in
set_option maxHeartbeats 1000000 in
theorem secret_Join_on (p : Int) (F : List Int) (l : Pts) (n : Nat) (ao : Option Addr) (cap : Nat) (w : World) (OP : PtsOk p l) (hp : (Lit.int .i64 p).wf = true) (hl : l.length = n) (h0 : 0 < n) (hc : n ≤ cap) (hR : Hid (Reads w ao (cells2 (l.map pV)))) (hF : InF p F) (hFl : F.length ≤ n) (hon : OnF p F l) (hz : l.any (fun y => y.1 == 0) = false) :
    Calls Try.prog 17 #[.int .i64 p, .slice ao n cap] w fun e w' => e = .returned (.tuple #[.int .i64 (co F 0), .int .i64 0]) ∧ Below w.heap.size w w' := by
  have l12 := OP.len
  have p1 := OP.p1
  have CK := Lib.hid (points_Check p l n ao cap w hp hl (by omega) hc hR)
  rw [ptsE_ok OP] at CK
  have d1 : ((n : Int) == 0) = false := by simp; omega
  have CF := Lib.hid (fun w' (hb : Below w.heap.size w w') => containsFunc_pt 85 (fun x W => by go_simp) (fun y => y.1 == 0) l n ao cap w' hl (by omega) (hR.out.below hb) (fun y _ W _ => join_zero y W))
  rw [hz] at CF
  have hx0 : (Lit.int .i64 0).wf = true := by decide
  have CA : Hid (∀ w', Below w.heap.size w w' → Calls Try.prog 19 #[.int .i64 p, .slice ao n cap, .int .i64 0] w' fun e w'' => e = .returned (.tuple #[.int .i64 (co F 0), .int .i64 0]) ∧ Below w'.heap.size w' w'') := fun w' hb => by
    have h := points_At_on p F l 0 n ao cap w' OP hp hx0 hl hc (hR.out.below hb) hF hFl hon
    rwa [Int.zero_emod, evp_zero, hF.mod (by omega)] at h
  clear hl hp OP hF hon hz l12
  go_enter Try.func17, Try.ntmps17
  go_wp2_with (first | (go_at_call 81; refine CK.out.mono ?_; rintro e w1 ⟨rfl, hb1⟩) | (go_at_call 84; refine (CF.out _ hb1).mono ?_; rintro e w2 ⟨rfl, s2⟩; have hb2 := hb1.trans (s2.mono hb1.size)) | (go_at_call 19; refine (CA.out _ hb2).mono ?_; rintro e w3 ⟨rfl, s3⟩; have hb3 := hb2.trans (s3.mono hb2.size)))
  go_ret2
  exact ⟨rfl, hb3⟩
theorem pair_drop {w : World} {b o : Nat} {zs : Pts} (h : Reads w (some ⟨b, o, none⟩) (cells2 (zs.map pV))) (m : Nat) : Reads w (some ⟨b, o + m * 2, none⟩) (cells2 ((zs.drop m).map pV)) := by
  intro j u hu
  obtain ⟨k, a, hk, hd⟩ := cells2_get' _ j u hu
  rw [List.map_drop, List.getElem?_drop] at hk
  obtain ⟨h1, h2⟩ := cells2_get (zs.map pV) (m + k) a hk
  rcases hd with ⟨rfl, rfl⟩ | ⟨rfl, rfl⟩
  · obtain ⟨b2, o2, ha, hc⟩ := h _ _ h1
    injection ha with ha
    injection ha with e1 e2
    subst e1 e2
    exact ⟨b, o + m * 2, rfl, by rw [show o + m * 2 + k * 2 = o + (m + k) * 2 by omega]; exact hc⟩
  · obtain ⟨b2, o2, ha, hc⟩ := h _ _ h2
    injection ha with ha
    injection ha with e1 e2
    subst e1 e2
    exact ⟨b, o + m * 2, rfl, by rw [show o + m * 2 + (k * 2 + 1) = o + ((m + k) * 2 + 1) by omega]; exact hc⟩
/-! ### The dealt points -/
theorem dealL_get {p : Int} {f : List Int} {n i : Nat} (h : i < n) : (dealL p f n)[i]? = some (dealP p f i) := by unfold dealL; simp [h]
theorem deal_sub {p : Int} {f : List Int} {n : Nat} (h1 : 2 ≤ p) (h2 : p ≤ 997) (hpr : IsPr p.toNat) (hn : n ≤ 12) (hnp : (n : Int) < p) (a m : Nat) (ham : a + m ≤ n) :
    PtsOk p (((dealL p f n).drop a).take m) ∧ OnF p f (((dealL p f n).drop a).take m) ∧ (((dealL p f n).drop a).take m).length = m ∧ (((dealL p f n).drop a).take m).any (fun y => y.1 == 0) = false := by
  have hlen : (((dealL p f n).drop a).take m).length = m := by unfold dealL; simp; omega
  have hget : ∀ i z, (((dealL p f n).drop a).take m)[i]? = some z → i < m ∧ z = dealP p f (a + i) := by
    intro i z hz
    have hi : i < m := by have := (List.getElem?_eq_some_iff.1 hz).1; omega
    rw [List.getElem?_take, if_pos hi, List.getElem?_drop, dealL_get (by omega)] at hz
    exact ⟨hi, (Option.some.inj hz).symm⟩
  refine ⟨⟨h1, h2, hpr, by omega, fun i z hz => ?_, fun i j z y hj hz hy => ?_⟩, fun k hk => ?_, hlen, ?_⟩
  · obtain ⟨hi, rfl⟩ := hget i z hz
    unfold dealP
    refine ⟨by show (0 : Int) ≤ ((a + i + 1 : Nat) : Int); omega, by show ((a + i + 1 : Nat) : Int) < p; omega, Int.emod_nonneg _ (by omega), Int.emod_lt_of_pos _ (by omega)⟩
  · obtain ⟨hi, rfl⟩ := hget i z hz
    obtain ⟨hj2, rfl⟩ := hget j y hy
    unfold dealP
    show ((a + j + 1 : Nat) : Int) ≠ ((a + i + 1 : Nat) : Int)
    omega
  · obtain ⟨z, hz⟩ : ∃ z, (((dealL p f n).drop a).take m)[k]? = some z := ⟨_, List.getElem?_eq_getElem hk⟩
    rw [xs_get hz, ys_get hz, (hget k z hz).2]
    rfl
  · rw [List.any_eq_false]
    intro z hz
    obtain ⟨k, hk⟩ := List.getElem?_of_mem hz
    rw [(hget k z hk).2]
    unfold dealP
    simp
    omega
theorem good_five (ao : Option Addr) (cap : Nat) (w : World) (hR : Hid (Reads w ao [.int .i64 0, .int .i64 0, .int .i64 0, .int .i64 0, .int .i64 0])) :
    Calls Try.prog 20 #[.slice ao 5 cap] w fun e w' => e = .returned (.bool true) ∧ ∃ m, w' = w.drewN m := by
  have h := containsFunc_err 90 hfnG (fun x => x != 0) [0, 0, 0, 0, 0] ao cap w (by simp) hR (Lib.hid fun x _ n => (good1 x _).mono fun e w' hh => ⟨hh.1, 0, hh.2.symm⟩)
  have e : ([0, 0, 0, 0, 0] : List Int).any (fun x => x != 0) = false := by decide
  rw [e] at h
  have HC := Lib.hid h
  clear h e
  go_enter Try.func20, Try.ntmps20
  go_wp2_with fail
  refine HC.out.mono ?_
  rintro e w' ⟨rfl, m, rfl⟩
  go_wp2_with fail
  go_ret
  exact ⟨rfl, m, rfl⟩
end Go.Proofs.Ytgdcmebhopjfaaa
