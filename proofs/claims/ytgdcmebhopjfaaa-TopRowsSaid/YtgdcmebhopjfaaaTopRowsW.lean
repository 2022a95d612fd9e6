/- TopRows: the walk, of whatever is handed in. -/
import Derived.Test.YtgdcmebhopjfaaaTopK
namespace Go.Proofs.Ytgdcmebhopjfaaa
open Go.RowKit

set_option maxRecDepth 100000 in
set_option maxHeartbeats 4000000 in
theorem topRows_small (n : Nat) (a0 : Option Addr) (cap0 : Nat) (more lost at_ y : Int) (w : World) (h : n = 0 ∨ 8 < n) :
    Calls Try.prog 9 #[.slice a0 n cap0, .int .i64 more, .int .i64 lost, .int .i64 at_, .int .u8 y] w fun e w' => e = .returned (.bool true) ∧ Below w.heap.size w w' := by
  have CT := Lib.hid (fun X => top_works X)
  rcases h with h | h
  · subst h
    go_enter Try.func9, Try.ntmps9
    go_wp2_with (first
      | (go_at_call 15; (with_reducible refine (CT.out w).mono ?_); rintro e w1 ⟨rfl, b1⟩)
      | (go_at_call 15; (with_reducible refine (CT.out w1).mono ?_); rintro e w2 ⟨rfl, b2⟩)
      | fail)
    go_ret
    exact ⟨rfl, b1.trans (b2.mono b1.size)⟩
  · have z0 : ((n : Int) == 0) = false := beq_eq_false_iff_ne.2 (by omega)
    have z8 : decide ((8 : Int) < n) = true := by simp; omega
    go_enter Try.func9, Try.ntmps9
    go_wp2_with (first
      | (go_at_call 15; (with_reducible refine (CT.out w).mono ?_); rintro e w1 ⟨rfl, b1⟩)
      | (go_at_call 15; (with_reducible refine (CT.out w1).mono ?_); rintro e w2 ⟨rfl, b2⟩)
      | fail)
    go_ret
    exact ⟨rfl, b1.trans (b2.mono b1.size)⟩
theorem i64_wf {a : Int} (h : (Lit.int .i64 a).wf = true) : -9223372036854775808 ≤ a ∧ a ≤ 9223372036854775807 := by
  simpa [Lit.wf, IntKind.min, IntKind.max, IntKind.signed, IntKind.bits] using h
theorem topRows_walk (a0 : Option Addr) (len0 cap0 : Nat) (z0 : List Int) (more lost at_ y : Int) (w : World) (w0 : IntsIn .u8 w a0 len0 z0 ∧ CapOk a0 len0 cap0)
    (w1 : (Lit.int .i64 more).wf = true) (w2 : (Lit.int .i64 lost).wf = true) (w3 : (Lit.int .i64 at_).wf = true) (w4 : (Lit.int .u8 y).wf = true) :
    Calls Try.prog 9 #[.slice a0 len0 cap0, .int .i64 more, .int .i64 lost, .int .i64 at_, .int .u8 y] w fun e w' => e = .returned (.bool true) ∧ Below w.heap.size w w' := by
  by_cases h : len0 = 0 ∨ 8 < len0
  · exact topRows_small len0 a0 cap0 more lost at_ y w h
  · have hy := u8_wf w4
    obtain ⟨k, rfl⟩ : ∃ k : Nat, y = k := ⟨y.toNat, by omega⟩
    have m0 := Int.emod_nonneg more (show (3 : Int) ≠ 0 by omega)
    obtain ⟨mm, hmm⟩ : ∃ mm : Nat, more % 3 = mm := ⟨(more % 3).toNat, by omega⟩
    obtain ⟨N, hN⟩ : ∃ N, len0 + 2 + mm = N := ⟨_, rfl⟩
    have l0 := Int.emod_nonneg lost (show (N : Int) ≠ 0 by omega)
    have a0' := Int.emod_nonneg at_ (show (N : Int) ≠ 0 by omega)
    exact topRows_core (lag gf (gfOfI z0) len0) (gfOfI z0) len0 N (lost % (N : Int)).toNat (at_ % (N : Int)).toNat mm k a0 cap0 more lost at_ w (bytes_of w0.1) rfl (by omega) (by omega) (i64_wf w1) (i64_wf w2) (i64_wf w3) hmm hN (by omega) (by omega) (by omega)
end Go.Proofs.Ytgdcmebhopjfaaa
