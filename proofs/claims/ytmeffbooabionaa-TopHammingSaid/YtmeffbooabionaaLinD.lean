/- linear.Words, Base, Weights, Far. -/
import Derived.Test.YtmeffbooabionaaLinB
import Derived.Test.YtmeffbooabionaaLinC
import Derived.Test.YtmeffbooabionaaTwo
set_option linter.unusedVariables false
set_option linter.unusedSimpArgs false
namespace Go.Proofs.Ytmeffbooabionaa
open Go.RowKit

def WordPost2 (xs : List Nat) (E : Int) (w : World) (e : Ending) (w' : World) : Prop :=
  ∃ ao, e = .returned (.tuple #[.slice ao xs.length xs.length, .int .i64 E]) ∧ (ao = none → xs.length = 0) ∧ (∀ a, ao = some a → w.heap.size ≤ a.block) ∧ Reads w' ao (cellsU xs) ∧ Below w.heap.size w w'
theorem wordE_zero {nz : Int} {l : List Nat} (h : wordE nz l = 0) : 1 ≤ nz ∧ nz ≤ 12 ∧ l.length ≤ 6 ∧ ∀ x ∈ l, x < 2 ^ nz.toNat := by
  unfold wordE at h
  split at h
  · cases h
  · split at h
    · cases h
    · split at h
      · cases h
      · rename_i h1 h2 h3
        refine ⟨by omega, by omega, by omega, fun x hx => ?_⟩
        simp at h3
        exact h3 x hx
theorem two_le16 {n : Nat} (h : n ≤ 12) : 2 ^ n ≤ 4096 := Nat.le_trans (Nat.pow_le_pow_right (by omega) h) (by decide)
theorem lin_Words (nz : Int) (l : List Nat) (ao : Option Addr) (m cap : Nat) (w : World) (hl : l.length = m) (h63 : m ≤ 9223372036854775807) (hlt : ∀ x ∈ l, x < 65536) (hR : Hid (Reads w ao (cellsU l))) :
    Calls Try.prog 13 #[.int .i64 nz, .slice ao m cap] w (WordPost2 (if wordE nz l = 0 then wordsL l else []) (wordE nz l) w) := by
  have C1 := Lib.hid (lin_Check nz l ao m cap w hl h63 hlt hR)
  obtain ⟨E, hE⟩ : ∃ E, wordE nz l = E := ⟨_, rfl⟩
  rw [hE] at C1 ⊢
  by_cases h0 : E = 0
  · subst h0
    obtain ⟨_, _, h6, _⟩ := wordE_zero hE
    have C2 := Lib.hid (fun W h => lin_words m l ao cap W hl (by omega) hlt h)
    rw [if_pos rfl]
    clear hE hl hlt
    go_enter Try.func13, Try.ntmps13
    go_wp2_with (first
      | (go_at_call 17; (refine C1.out.mono ?_); rintro e w1 ⟨rfl, hb1⟩)
      | (go_at_call 42; (refine (C2.out _ (hR.out.below hb1)).mono ?_); rintro e w2 ⟨a2, rfl, hn2, hp2, hR2, hb2⟩)
      | fail)
    go_ret2
    exact ⟨a2, rfl, hn2, fun a h => Nat.le_trans hb1.size (hp2 a h), hR2, hb1.trans (hb2.mono hb1.size)⟩
  · rw [if_neg h0]
    have h0b : (E == 0) = false := by simp; omega
    have h0c : (E != 0) = true := by simp; omega
    clear hE hl hlt
    go_enter Try.func13, Try.ntmps13
    go_wp2_with (first
      | (go_at_call 17; (refine C1.out.mono ?_); rintro e w1 ⟨rfl, hb1⟩)
      | fail)
    go_ret2
    exact ⟨none, rfl, (fun _ => rfl), (fun a h => by cases h), Reads.nil _ _, hb1⟩
theorem lin_Base (nz : Int) (l : List Nat) (ao : Option Addr) (m cap : Nat) (w : World) (hl : l.length = m) (h63 : m ≤ 9223372036854775807) (hlt : ∀ x ∈ l, x < 65536) (hR : Hid (Reads w ao (cellsU l))) :
    Calls Try.prog 14 #[.int .i64 nz, .slice ao m cap] w (WordPost2 (if wordE nz l = 0 then baseL l else []) (wordE nz l) w) := by
  have C1 := Lib.hid (lin_Check nz l ao m cap w hl h63 hlt hR)
  obtain ⟨E, hE⟩ : ∃ E, wordE nz l = E := ⟨_, rfl⟩
  rw [hE] at C1 ⊢
  by_cases h0 : E = 0
  · subst h0
    obtain ⟨_, _, h6, _⟩ := wordE_zero hE
    have C2 := Lib.hid (fun W h => lin_base m l ao cap W hl (by omega) hlt h)
    rw [if_pos rfl]
    clear hE hl hlt
    go_enter Try.func14, Try.ntmps14
    go_wp2_with (first
      | (go_at_call 17; (refine C1.out.mono ?_); rintro e w1 ⟨rfl, hb1⟩)
      | (go_at_call 33; (refine (C2.out _ (hR.out.below hb1)).mono ?_); rintro e w2 ⟨a2, rfl, hn2, hp2, hR2, hb2⟩)
      | fail)
    go_ret2
    exact ⟨a2, rfl, hn2, fun a h => Nat.le_trans hb1.size (hp2 a h), hR2, hb1.trans (hb2.mono hb1.size)⟩
  · rw [if_neg h0]
    have h0b : (E == 0) = false := by simp; omega
    have h0c : (E != 0) = true := by simp; omega
    clear hE hl hlt
    go_enter Try.func14, Try.ntmps14
    go_wp2_with (first
      | (go_at_call 17; (refine C1.out.mono ?_); rintro e w1 ⟨rfl, hb1⟩)
      | fail)
    go_ret2
    exact ⟨none, rfl, (fun _ => rfl), (fun a h => by cases h), Reads.nil _ _, hb1⟩
/-! ### Weights -/
def wtN (W : List Nat) (j : Nat) : Nat := W.countP fun x => ones16 x == j
theorem wtN_snoc (W : List Nat) (x j : Nat) : wtN (W ++ [x]) j = if j = ones16 x then wtN W j + 1 else wtN W j := by
  unfold wtN
  rw [List.countP_append]
  by_cases h : j = ones16 x
  · subst h; simp
  · rw [if_neg h]
    have : (ones16 x == j) = false := by simpa using fun e => h e.symm
    simp [this]
theorem onesF_high {x N : Nat} (hx : x < 2 ^ N) : ∀ k, onesF x (N + k) = onesF x N := by
  intro k
  induction k with
  | zero => rfl
  | succ k ih =>
    have e : onesF x (N + (k + 1)) = onesF x (N + k) + x / 2 ^ (N + k) % 2 := rfl
    have h2 : x / 2 ^ (N + k) = 0 := Nat.div_eq_of_lt (Nat.lt_of_lt_of_le hx (Nat.pow_le_pow_right (by omega) (by omega)))
    rw [e, ih, h2]
    rfl
theorem ones_le {x N : Nat} (hN : N ≤ 16) (hx : x < 2 ^ N) : ones16 x ≤ N := by
  have h := onesF_high hx (16 - N)
  rw [show N + (16 - N) = 16 by omega] at h
  show onesF x 16 ≤ N
  rw [h]
  exact onesF_le x N
end Go.Proofs.Ytmeffbooabionaa
