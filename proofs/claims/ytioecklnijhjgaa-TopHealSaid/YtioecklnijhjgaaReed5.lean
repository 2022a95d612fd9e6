/- Contracts of package reed: Check, Put. -/
import Derived.Test.YtioecklnijhjgaaRows
import Derived.Test.YtioecklnijhjgaaHlM16
namespace Go.Proofs.Ytioecklnijhjgaa
open Go.RowKit

theorem i64Info : ElemRow Try.prog 3 (.int .i64 0) 1 8 := elemRow_of (by kernel_rfl) rfl (by omega)
/-- What Check answers of n cells and the number k, m cells being the most. -/
def chkE (m n : Nat) (k : Int) : Int := if m < n then 2 else if k < 1 ∨ (n : Int) < k then 1 else 0
set_option maxRecDepth 20000 in
theorem reed_Check (n : Nat) (k : Int) (ao : Option Addr) (cap : Nat) (w : World) :
    Calls Try.prog 86 #[.slice ao n cap, .int .i64 k] w fun e w' => e = .returned (.int .i64 (chkE 20 n k)) ∧ w = w' := by
  unfold chkE
  by_cases h : 20 < n
  · have d : decide ((20 : Int) < n) = true := by simp; omega
    rw [if_pos h]
    go_enter Try.func86, Try.ntmps86
    go_wp2_with fail
    go_ret
    exact ⟨rfl, rfl⟩
  · have d : decide ((20 : Int) < n) = false := by simp; omega
    rw [if_neg h]
    by_cases h1 : k < 1
    · have d1 : decide (k < 1) = true := decide_eq_true h1
      rw [if_pos (.inl h1)]
      go_enter Try.func86, Try.ntmps86
      go_wp2_with fail
      go_ret
      exact ⟨rfl, rfl⟩
    · have d1 : decide (k < 1) = false := decide_eq_false h1
      by_cases h2 : (n : Int) < k
      · have d2 : decide ((n : Int) < k) = true := decide_eq_true h2
        rw [if_pos (.inr h2)]
        go_enter Try.func86, Try.ntmps86
        go_wp2_with fail
        go_ret
        exact ⟨rfl, rfl⟩
      · have d2 : decide ((n : Int) < k) = false := decide_eq_false h2
        rw [if_neg (by omega)]
        go_enter Try.func86, Try.ntmps86
        go_wp2_with fail
        go_ret
        exact ⟨rfl, rfl⟩
def putE (n : Nat) (N : Int) : Int := if n < 1 ∨ 20 < n then 2 else if N < n ∨ 20 < N then 1 else 0
set_option maxRecDepth 20000 in
theorem reed_Put_bad (n : Nat) (N : Int) (ao : Option Addr) (cap : Nat) (w : World) (h : putE n N ≠ 0) :
    Calls Try.prog 33 #[.slice ao n cap, .int .i64 N] w fun e w' => e = .returned (.tuple #[.slice none 0 0, .int .i64 (putE n N)]) ∧ w = w' := by
  unfold putE at h ⊢
  by_cases h1 : n < 1
  · have d : decide ((n : Int) < 1) = true := by simp; omega
    rw [if_pos (.inl h1)]
    clear h
    go_enter Try.func33, Try.ntmps33
    go_wp2_with fail
    go_ret2
    exact ⟨rfl, rfl⟩
  · have d : decide ((n : Int) < 1) = false := by simp; omega
    by_cases h2 : 20 < n
    · have d2 : decide ((20 : Int) < n) = true := by simp; omega
      rw [if_pos (.inr h2)]
      clear h
      go_enter Try.func33, Try.ntmps33
      go_wp2_with fail
      go_ret2
      exact ⟨rfl, rfl⟩
    · have d2 : decide ((20 : Int) < n) = false := by simp; omega
      rw [if_neg (by omega)] at h ⊢
      by_cases h3 : N < n
      · have d3 : decide (N < (n : Int)) = true := decide_eq_true h3
        rw [if_pos (.inl h3)]
        clear h
        go_enter Try.func33, Try.ntmps33
        go_wp2_with fail
        go_ret2
        exact ⟨rfl, rfl⟩
      · have d3 : decide (N < (n : Int)) = false := decide_eq_false h3
        have h4 : 20 < N := by
          rcases Int.lt_or_le 20 N with h4 | h4
          · exact h4
          · rw [if_neg (by omega)] at h; exact absurd rfl h
        have d4 : decide (20 < N) = true := decide_eq_true h4
        rw [if_pos (.inr h4)]
        clear h
        go_enter Try.func33, Try.ntmps33
        go_wp2_with fail
        go_ret2
        exact ⟨rfl, rfl⟩
def PutPost (ys : Nat → GF) (k n : Nat) (w : World) (e : Ending) (w' : World) : Prop :=
  ∃ g cap, e = .returned (.tuple #[.slice (some ⟨g, 0, none⟩) n cap, .int .i64 0]) ∧ Own w' w.heap.size 5 g n cap (gfV fun j => lag gf ys k (gf j)) ∧ Below w.heap.size w w'
set_option maxRecDepth 20000 in
set_option maxHeartbeats 1000000 in
theorem reed_Put (ys : Nat → GF) (n N : Nat) (ao : Option Addr) (cap : Nat) (w : World) (h1 : 1 ≤ n) (h2 : n ≤ N) (h3 : N ≤ 20) (hy : Hid (Reads w ao (rowF n (gfV ys)))) :
    Calls Try.prog 33 #[.slice ao n cap, .int .i64 N] w (PutPost ys n N w) := by
  have d1 : decide ((n : Int) < 1) = false := by simp; omega
  have d2 : decide ((20 : Int) < n) = false := by simp; omega
  have d3 : decide ((N : Int) < n) = false := by simp; omega
  have d4 : decide ((20 : Int) < N) = false := by simp; omega
  have d5 : decide (N < n) = false := by simp; omega
  go_enter Try.func33, Try.ntmps33
  go_wp2_with fail
  go_loopw [6, 7, 28] (fun vo _ vx wr => ∃ x : Nat, vx = .int .i64 x ∧ x ≤ n ∧ Hid (wr.ownsRow w.heap.size 3 1 vo x (rowF x (giV gf))) ∧ Hid (Below w.heap.size w wr)) (fun _ _ vx _ => n - (intOf vx).toNat)
  case atStart => exact ⟨0, rfl, by omega, World.ownsRow_nil _ _ _ _, Below.refl _ _⟩
  case round =>
    obtain ⟨x, rfl, hxn, hrow, hb⟩ := hrel
    by_cases hx1 : x < n
    · have hv : Hid (Value.int .i64 (x : Int) = giV gf x) := by
        show _ = _
        unfold giV
        rw [gf_val (by omega)]
      go_wp2_with (at_builtin; go_must (refine app_one rfl (.tmp 31) (.tmp 33) _ rfl w.heap.size 3 _ 1 8 Try.underlying53 i64Info u6 x (rowF x (giV gf)) (by rfl) hrow.out [.int .i64 (x : Int)] (by rfl) rfl (by intro u hu; simp at hu; subst hu; rfl) (by unfold maxLen; omega) (by omega) hb.out.size ?_); intro v2 w2 hown2 hgr2 hb3)
      have hrow3 : Hid (w2.ownsRow w.heap.size 3 1 v2 (x + 1) (rowF (x + 1) (giV gf))) := by
        show World.ownsRow _ _ _ _ _ _ _
        rw [rowF_succ, ← hv.out]; exact hown2
      have hb4 := Lib.hid (hb.out.trans hb3)
      clear hown2 hgr2 hb3
      go_roundw
      case rel => exact ⟨x + 1, by go_num, by omega, hrow3, hb4⟩
      case measure => simp [intOf]; omega
    · have hx2 : x = n := by omega
      obtain ⟨ao2, cp2, hv2, hR2, hn2, hm2⟩ := own_reads hrow.out
      rw [hx2] at hR2 hv2
      subst hv2
      have HR := Lib.hid hR2
      have HY := Lib.hid (hy.out.below hb.out)
      clear hR2 hn2 hm2 hx2
      go_wp2_with fail
      refine (reed_Row gf ys n N ao2 ao cp2 cap wr (by omega) (by omega) HR HY).mono ?_
      rintro e w' ⟨g, cp3, rfl, hO, hb3⟩
      have HO : Hid (Own w' w.heap.size 5 g N cp3 (gfV fun j => lag gf ys n (gf j))) := by
        have := own_mono hO hb.out.size
        exact this
      have HB := Lib.hid (hb.out.trans (Below.mono hb3 hb.out.size))
      clear hO hb3
      go_wp2_with fail
      go_ret2
      exact ⟨g, cp3, rfl, HO.out, HB.out⟩
end Go.Proofs.Ytioecklnijhjgaa
