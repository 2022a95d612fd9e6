/- Contracts of package massey's small functions and of the reference's BitsErr and Makes. -/
import Derived.Test.YtonphmkilikapaaRows
import Derived.Test.YtonphmkilikapaaSlicesB
import Derived.Test.YtonphmkilikapaaArgs
import Derived.Test.YtonphmkilikapaaMasseyH
namespace Go.Proofs.Ytonphmkilikapaa
open Go.RowKit

/-- A bit as a byte. -/
def bv (b : Bool) : Int := if b = true then 1 else 0
theorem bv_bd (b : Bool) : 0 ≤ bv b ∧ bv b ≤ 1 := by cases b <;> decide
theorem bits_and_bv (a b : Bool) : bits .and .u8 (bv a) (bv b) = bv (a && b) := by cases a <;> cases b <;> decide
theorem bits_xor_bv (a b : Bool) : bits .xor .u8 (bv a) (bv b) = bv (a.xor b) := by cases a <;> cases b <;> decide
theorem bv_ne (a b : Bool) : (bv a != bv b) = (a != b) := by cases a <;> cases b <;> decide
theorem bv_zero (a : Bool) : (bv a == 0) = !a := by cases a <;> decide
def bvV (s : Nat → Bool) (j : Nat) : Value := .int .u8 (bv (s j))
def over1 (x : Int) : Bool := decide (1 < x)
/-- The bits of a list of bytes. -/
def bitsOf (zs : List Int) (j : Nat) : Bool := zs.getD j 0 == 1
theorem bits_reads {zs : List Int} (h0 : ∀ z ∈ zs, 0 ≤ z) (h1 : zs.any over1 = false) : zs.map (Value.int .u8) = rowF zs.length (bvV (bitsOf zs)) := by
  rw [map_rowF zs (Value.int .u8) 0]
  apply rowF_congr
  intro j hj
  unfold bvV bitsOf bv
  have hm : zs.getD j 0 ∈ zs := by rw [List.getD_eq_getElem?_getD, List.getElem?_eq_getElem hj]; exact List.getElem_mem hj
  have a0 := h0 _ hm
  have a1 : over1 (zs.getD j 0) = false := by
    rw [List.any_eq_false] at h1
    simpa using h1 _ hm
  unfold over1 at a1
  simp at a1
  have : zs.getD j 0 = 0 ∨ zs.getD j 0 = 1 := by
    rw [List.getD_eq_getElem?_getD] at a0 ⊢
    omega
  rcases this with h | h <;> rw [h] <;> rfl

set_option maxHeartbeats 400000 in
theorem massey_chk1 (x : Int) (w : World) : Calls Try.prog 100 #[.int .u8 x] w fun e w' => e = .returned (.bool (over1 x)) ∧ ∃ n, w' = w.drewN n := by
  have hb : Hid (over1 x = decide (1 < x)) := rfl
  go_enter Try.func100, Try.ntmps100
  go_wp2
  go_ret
  exact ⟨by rw [hb.out]; rfl, 0, rfl⟩
set_option maxHeartbeats 400000 in
theorem bitsErr1 (x : Int) (w : World) : Calls Try.prog 99 #[.int .u8 x] w fun e w' => e = .returned (.bool (over1 x)) ∧ ∃ n, w' = w.drewN n := by
  have hb : Hid (over1 x = decide (1 < x)) := rfl
  go_enter Try.func99, Try.ntmps99
  go_wp2
  go_ret
  exact ⟨by rw [hb.out]; rfl, 0, rfl⟩
def chkN (zs : List Int) : Int := if 60 < zs.length then 2 else if zs.any over1 = true then 1 else 0
set_option maxHeartbeats 1000000 in
theorem massey_Check (zs : List Int) (ao : Option Addr) (cap : Nat) (w : World) (h : IntsIn .u8 w ao zs.length zs) :
    Calls Try.prog 64 #[.slice ao zs.length cap] w fun e w' => e = .returned (.int .i64 (chkN zs)) ∧ ∃ n, w' = w.drewN n := by
  have hR := Lib.hid h.2.2.2
  have hl := h.2.1
  by_cases h1 : 60 < zs.length
  · have e : Hid (chkN zs = 2) := by show _ = _; unfold chkN; rw [if_pos h1]
    have d : decide ((60 : Int) < zs.length) = true := by simp; omega
    clear h
    go_enter Try.func64, Try.ntmps64
    go_wp2_with fail
    go_ret
    exact ⟨by rw [e.out]; rfl, 0, rfl⟩
  · have e : Hid (chkN zs = if zs.any over1 = true then 1 else 0) := by show _ = _; unfold chkN; rw [if_neg h1]
    have d : decide ((60 : Int) < zs.length) = false := by simp; omega
    clear h h1
    cases hb : zs.any over1 with
    | true =>
      have HB := Lib.hid hb
      clear hb
      go_enter Try.func64, Try.ntmps64
      go_wp2_with (go_at_call 98; refine (containsFunc_u8 100 (fun x W => by kernel_rfl) over1 zs ao cap w hl hR (fun x _ n => massey_chk1 x _)).mono ?_; rw [HB.out]; rintro e w' ⟨rfl, n, rfl⟩)
      go_ret
      exact ⟨by rw [e.out, HB.out]; rfl, _, rfl⟩
    | false =>
      have HB := Lib.hid hb
      clear hb
      go_enter Try.func64, Try.ntmps64
      go_wp2_with (go_at_call 98; refine (containsFunc_u8 100 (fun x W => by kernel_rfl) over1 zs ao cap w hl hR (fun x _ n => massey_chk1 x _)).mono ?_; rw [HB.out]; rintro e w' ⟨rfl, n, rfl⟩)
      go_ret
      exact ⟨by rw [e.out, HB.out]; rfl, _, rfl⟩
set_option maxHeartbeats 1000000 in
theorem ref_BitsErr (zs : List Int) (ao : Option Addr) (cap : Nat) (w : World) (h : IntsIn .u8 w ao zs.length zs) :
    Calls Try.prog 63 #[.slice ao zs.length cap] w fun e w' => e = .returned (.int .i64 (chkN zs)) ∧ ∃ n, w' = w.drewN n := by
  have hR := Lib.hid h.2.2.2
  have hl := h.2.1
  by_cases h1 : 60 < zs.length
  · have e : Hid (chkN zs = 2) := by show _ = _; unfold chkN; rw [if_pos h1]
    have d : decide ((60 : Int) < zs.length) = true := by simp; omega
    clear h
    go_enter Try.func63, Try.ntmps63
    go_wp2_with fail
    go_ret
    exact ⟨by rw [e.out]; rfl, 0, rfl⟩
  · have e : Hid (chkN zs = if zs.any over1 = true then 1 else 0) := by show _ = _; unfold chkN; rw [if_neg h1]
    have d : decide ((60 : Int) < zs.length) = false := by simp; omega
    clear h h1
    cases hb : zs.any over1 with
    | true =>
      have HB := Lib.hid hb
      clear hb
      go_enter Try.func63, Try.ntmps63
      go_wp2_with (go_at_call 98; refine (containsFunc_u8 99 (fun x W => by kernel_rfl) over1 zs ao cap w hl hR (fun x _ n => bitsErr1 x _)).mono ?_; rw [HB.out]; rintro e w' ⟨rfl, n, rfl⟩)
      go_ret
      exact ⟨by rw [e.out, HB.out]; rfl, _, rfl⟩
    | false =>
      have HB := Lib.hid hb
      clear hb
      go_enter Try.func63, Try.ntmps63
      go_wp2_with (go_at_call 98; refine (containsFunc_u8 99 (fun x W => by kernel_rfl) over1 zs ao cap w hl hR (fun x _ n => bitsErr1 x _)).mono ?_; rw [HB.out]; rintro e w' ⟨rfl, n, rfl⟩)
      go_ret
      exact ⟨by rw [e.out, HB.out]; rfl, _, rfl⟩

attribute [local go_sem] bits_and_bv bits_xor_bv
set_option maxHeartbeats 1000000 in
theorem massey_next (s c : Nat → Bool) (n m : Nat) (ao bo : Option Addr) (cap cap2 : Nat) (w : World) (hn : n ≤ 60) (hm : m ≤ n) (hs : Hid (Reads w ao (rowF n (bvV s)))) (hc : Hid (Reads w bo (rowF m (bvV c)))) :
    Calls Try.prog 97 #[.slice ao n cap, .slice bo m cap2] w fun e w' => e = .returned (.int .u8 (bv (xs m fun k => c k && s (n - 1 - k)))) ∧ w = w' := by
  go_enter Try.func97, Try.ntmps97
  go_wp2_with fail
  go_loop [5, 10] (fun vo vi => ∃ k : Nat, vi = .int .i64 k ∧ k ≤ m ∧ ∃ b : Bool, vo = .int .u8 (bv b) ∧ Hid (b = xs k fun k => c k && s (n - 1 - k))) (fun _ vi => m - (intOf vi).toNat)
  case atStart => exact ⟨0, rfl, by omega, false, rfl, rfl⟩
  case round =>
    obtain ⟨k, rfl, hk, b, rfl, hb⟩ := hrel
    by_cases hkm : k < m
    · obtain ⟨b1, o1, rfl, x1⟩ := hc.out k _ (rowF_get (bvV c) hkm)
      obtain ⟨t, ht⟩ : ∃ t, n - 1 - k = t := ⟨_, rfl⟩
      have hit : (n : Int) - 1 - (k : Int) = (t : Int) := by omega
      obtain ⟨b2, o2, rfl, x2⟩ := hs.out t _ (rowF_get (bvV s) (by omega))
      unfold bvV at x1 x2
      have t0 : (0 : Int) ≤ t := by omega
      have t1 : (t : Int) < n := by omega
      have hnew : Hid (b.xor (c k && s t) = xs (k + 1) fun k => c k && s (n - 1 - k)) := by
        show _ = _
        rw [xs, ht, hb.out]
      clear ht
      go_wp2_with fail
      go_round
      case rel => exact ⟨k + 1, by go_num, by omega, _, rfl, hnew⟩
      case measure => simp [intOf]; omega
    · have hR : Hid (b = xs m fun k => c k && s (n - 1 - k)) := by
        have : k = m := by omega
        show _ = _
        rw [hb.out, this]
      go_wp2_with fail
      go_ret
      exact ⟨by rw [← hR.out]; rfl, rfl⟩
end Go.Proofs.Ytonphmkilikapaa
