/- poly.Field, poly.Check and poly.checks. -/
import Derived.Test.YtmeffbooabionaaRows
import Derived.Test.YtmeffbooabionaaPrime
import Derived.Test.YtmeffbooabionaaSlicesC
import Derived.Test.YtmeffbooabionaaPolyM
import Derived.Test.YtmeffbooabionaaTwo
set_option linter.unusedVariables false
set_option linter.unusedSimpArgs false
namespace Go.Proofs.Ytmeffbooabionaa
open Go.RowKit

open Classical in
noncomputable def fldE (p : Int) : Int := if 2 ≤ p ∧ p ≤ 997 ∧ IsPr p.toNat then 0 else 1
def outF (p : Int) (c : Int) : Bool := decide (c < 0) || decide (p ≤ c)
noncomputable def polE (p : Int) (f : List Int) : Int :=
  if fldE p = 1 then 1 else if 40 < f.length then 2 else if f.any (outF p) = true then 1 else if 0 < f.length ∧ co f (f.length - 1) = 0 then 3 else 0
theorem fldE_zero {p : Int} (h : 2 ≤ p) (h2 : p ≤ 997) (h3 : IsPr p.toNat) : fldE p = 0 := by unfold fldE; rw [if_pos ⟨h, h2, h3⟩]
theorem fldE_one {p : Int} (h : ¬ (2 ≤ p ∧ p ≤ 997 ∧ IsPr p.toNat)) : fldE p = 1 := by unfold fldE; rw [if_neg h]
theorem fldE_cases (p : Int) : (fldE p = 0 ∧ 2 ≤ p ∧ p ≤ 997 ∧ IsPr p.toNat) ∨ fldE p = 1 := by
  unfold fldE
  split
  · exact .inl ⟨rfl, ‹_›⟩
  · exact .inr rfl
set_option maxRecDepth 20000 in
set_option maxHeartbeats 1000000 in
theorem poly_Field (p : Int) (w : World) (_h : (Lit.int .i64 p).wf = true) :
    Calls Try.prog 69 #[.int .i64 p] w fun e w' => e = .returned (.int .i64 (fldE p)) ∧ w' = w := by
  by_cases hr : 0 ≤ p ∧ p ≤ 1000000
  · obtain ⟨n, rfl⟩ : ∃ n : Nat, p = n := ⟨p.toNat, by omega⟩
    have hn : n ≤ 1000000 := by omega
    cases hb : prB n with
    | false =>
      have hE : Hid (fldE (n : Int) = 1) := fldE_one (by rw [Int.toNat_natCast]; exact fun h => by rw [prB_true h.2.2] at hb; cases hb)
      have HB := Lib.hid hb
      clear hb hr
      go_enter Try.func69, Try.ntmps69
      go_wp2_with (go_at_call 95; refine (prime_Is n _ hn).mono ?_; rw [HB.out]; rintro e w' ⟨rfl, rfl⟩)
      go_ret
      exact ⟨by rw [hE.out]; rfl, rfl⟩
    | true =>
      have HB := Lib.hid hb
      have hpr := prB_iff.1 hb
      by_cases h9 : n ≤ 997
      · have hE : Hid (fldE (n : Int) = 0) := fldE_zero (by have := hpr.1; omega) (by omega) (by rw [Int.toNat_natCast]; exact hpr)
        have d1 : decide ((997 : Int) < n) = false := by simp; omega
        clear hb hr hpr
        go_enter Try.func69, Try.ntmps69
        go_wp2_with (go_at_call 95; refine (prime_Is n _ hn).mono ?_; rw [HB.out]; rintro e w' ⟨rfl, rfl⟩)
        go_ret
        exact ⟨by rw [hE.out]; rfl, rfl⟩
      · have hE : Hid (fldE (n : Int) = 1) := fldE_one (by omega)
        have d1 : decide ((997 : Int) < n) = true := by simp; omega
        clear hb hr hpr
        go_enter Try.func69, Try.ntmps69
        go_wp2_with (go_at_call 95; refine (prime_Is n _ hn).mono ?_; rw [HB.out]; rintro e w' ⟨rfl, rfl⟩)
        go_ret
        exact ⟨by rw [hE.out]; rfl, rfl⟩
  · have hE : Hid (fldE p = 1) := fldE_one (by omega)
    have hp : p < 0 ∨ 1000000 < p := by omega
    clear hr
    go_enter Try.func69, Try.ntmps69
    go_wp2_with (go_at_call 95; refine (prime_Is_bad p _ hp).mono ?_; rintro e w' ⟨rfl, rfl⟩)
    go_ret
    exact ⟨by rw [hE.out]; rfl, rfl⟩
theorem poly_out (x p : Int) (b : Nat) (w : World) (hc : w.cell? ⟨b, 0, none⟩ = some (.int .i64 p)) :
    Calls Try.prog 70 #[.int .i64 x, .pointer (some ⟨b, 0, none⟩)] w fun e w' => e = .returned (.bool (outF p x)) ∧ w' = w := by
  go_enter Try.func70, Try.ntmps70
  unfold outF
  cases h : decide (x < 0) with
  | true =>
    go_wp2_with fail
    go_ret
    exact ⟨by simp, rfl⟩
  | false =>
    go_wp2_with fail
    go_ret
    exact ⟨by simp, rfl⟩
set_option maxRecDepth 20000 in
set_option maxHeartbeats 1000000 in
theorem poly_Check (p : Int) (zs : List Int) (ao : Option Addr) (n cap : Nat) (w : World) (hp : (Lit.int .i64 p).wf = true) (hl : zs.length = n) (h63 : n ≤ 9223372036854775807) (hR : Hid (Reads w ao (zs.map (Value.int .i64)))) :
    Calls Try.prog 44 #[.int .i64 p, .slice ao n cap] w fun e w' => e = .returned (.int .i64 (polE p zs)) ∧ Below w.heap.size w w' := by
  have HL := Lib.hid hl
  have hb := Lib.hid ((Below.refl w.heap.size w).alloc (Nat.le_refl _) (.cells #[.int .i64 p] 3))
  have HR := Lib.hid (hR.out.alloc (.cells #[.int .i64 p] 3))
  have HP := Lib.hid hp
  have hc0 : Hid ((w.alloc (.cells #[.int .i64 p] 3)).cell? ⟨w.heap.size, 0, none⟩ = some (.int .i64 p)) := by show _ = _; simp [World.cell?_alloc_new]
  clear hl hp
  rcases fldE_cases p with ⟨hf, p1, p2, p3⟩ | hf
  · have HF := Lib.hid hf
    clear p3
    by_cases h40 : 40 < n
    · have hE : Hid (polE p zs = 2) := by show _ = _; unfold polE; rw [HF.out, if_neg (by omega), if_pos (by rw [HL.out]; exact h40)]
      have d1 : decide ((40 : Int) < n) = true := by simp; omega
      clear hf h40
      go_enter Try.func44, Try.ntmps44
      go_wp2_with (go_at_call 69; refine (poly_Field p _ HP.out).mono ?_; rw [HF.out]; rintro e w' ⟨rfl, rfl⟩)
      go_ret
      exact ⟨by rw [hE.out]; rfl, hb.out⟩
    · have d1 : decide ((40 : Int) < n) = false := by simp; omega
      have hany : ∃ b, zs.any (outF p) = b := ⟨_, rfl⟩
      obtain ⟨b, hany⟩ := hany
      have HA := Lib.hid hany
      have hCF : Hid (Calls Try.prog 51 #[.slice ao zs.length cap, .func (.func 70) #[] #[.pointer (some ⟨w.heap.size, 0, none⟩)]] (w.alloc (.cells #[.int .i64 p] 3)) fun e w' => e = .returned (.bool (zs.any (outF p))) ∧ ∃ n, w' = (w.alloc (.cells #[.int .i64 p] 3)).drewN n) := by
        refine containsFunc_cap 70 (.pointer (some ⟨w.heap.size, 0, none⟩)) (fun x W => by go_simp) (outF p) zs ao cap _ (by rw [HL.out]; exact h63) HR ?_
        intro x hx m
        refine (poly_out x p w.heap.size ((w.alloc (.cells #[.int .i64 p] 3)).drewN m) (show World.cell? _ _ = _ from hc0.out)).mono ?_
        rintro e w' ⟨rfl, rfl⟩
        exact ⟨rfl, 0, rfl⟩
      rw [HA.out, HL.out] at hCF
      cases b with
      | true =>
        have hE : Hid (polE p zs = 1) := by show _ = _; unfold polE; rw [HF.out, if_neg (by omega), if_neg (by rw [HL.out]; exact h40), if_pos HA.out]
        clear hf h40 hany
        go_enter Try.func44, Try.ntmps44
        go_wp2_with (first | (go_at_call 69; refine (poly_Field p _ HP.out).mono ?_; rw [HF.out]; rintro e w' ⟨rfl, rfl⟩) | (go_at_call 51; refine hCF.out.mono ?_; rintro e w' ⟨rfl, m, rfl⟩))
        go_ret
        exact ⟨by rw [hE.out]; rfl, below_drewN hb.out m⟩
      | false =>
        by_cases h0 : 0 < n
        · have d2 : decide ((0 : Int) < n) = true := by simp; omega
          obtain ⟨x, hx⟩ : ∃ x, co zs (n - 1) = x := ⟨_, rfl⟩
          obtain ⟨b, o, rfl, hcx⟩ := HR.out (n - 1) (.int .i64 x) (by rw [List.getElem?_map, co_some (by rw [HL.out]; omega), hx]; rfl)
          obtain ⟨j, hj⟩ : ∃ j, n - 1 = j := ⟨_, rfl⟩
          have hj2 : (n : Int) - 1 = j := by omega
          have hjl : j < n := by omega
          have hw1 : IntKind.i64.wrap ((n : Int) - 1) = j := by rw [hj2]; exact IntWalk.i64_in _ (by omega)
          have j0 : (0 : Int) ≤ j := by omega
          have j1 : (j : Int) < n := by omega
          rw [hj] at hcx
          have HX : Hid (co zs (zs.length - 1) = x) := by show _ = _; rw [HL.out]; exact hx
          cases hz : (x == 0) with
          | true =>
            have hE : Hid (polE p zs = 3) := by show _ = _; unfold polE; rw [HF.out, if_neg (by omega), if_neg (by rw [HL.out]; exact h40), if_neg (by rw [HA.out]; simp), if_pos ⟨by rw [HL.out]; exact h0, by rw [HX.out]; simpa using hz⟩]
            clear hf h40 hany hj hj2 hx
            go_enter Try.func44, Try.ntmps44
            go_wp2_with (first | (go_at_call 69; refine (poly_Field p _ HP.out).mono ?_; rw [HF.out]; rintro e w' ⟨rfl, rfl⟩) | (go_at_call 51; refine hCF.out.mono ?_; rintro e w' ⟨rfl, m, rfl⟩))
            go_ret
            exact ⟨by rw [hE.out]; rfl, below_drewN hb.out m⟩
          | false =>
            have hE : Hid (polE p zs = 0) := by show _ = _; unfold polE; rw [HF.out, if_neg (by omega), if_neg (by rw [HL.out]; exact h40), if_neg (by rw [HA.out]; simp), if_neg (by rw [HX.out]; intro h; simp [h.2] at hz)]
            clear hf h40 hany hj hj2 hx
            go_enter Try.func44, Try.ntmps44
            go_wp2_with (first | (go_at_call 69; refine (poly_Field p _ HP.out).mono ?_; rw [HF.out]; rintro e w' ⟨rfl, rfl⟩) | (go_at_call 51; refine hCF.out.mono ?_; rintro e w' ⟨rfl, m, rfl⟩))
            go_ret
            exact ⟨by rw [hE.out]; rfl, below_drewN hb.out m⟩
        · have hE : Hid (polE p zs = 0) := by show _ = _; unfold polE; rw [HF.out, if_neg (by omega), if_neg (by rw [HL.out]; exact h40), if_neg (by rw [HA.out]; simp), if_neg (by rw [HL.out]; omega)]
          have d2 : decide ((0 : Int) < n) = false := by simp; omega
          clear hf h40 hany
          go_enter Try.func44, Try.ntmps44
          go_wp2_with (first | (go_at_call 69; refine (poly_Field p _ HP.out).mono ?_; rw [HF.out]; rintro e w' ⟨rfl, rfl⟩) | (go_at_call 51; refine hCF.out.mono ?_; rintro e w' ⟨rfl, m, rfl⟩))
          go_ret
          exact ⟨by rw [hE.out]; rfl, below_drewN hb.out m⟩
  · have HF := Lib.hid hf
    have hE : Hid (polE p zs = 1) := by show _ = _; unfold polE; rw [HF.out, if_pos rfl]
    clear hf
    go_enter Try.func44, Try.ntmps44
    go_wp2_with (go_at_call 69; refine (poly_Field p _ HP.out).mono ?_; rw [HF.out]; rintro e w' ⟨rfl, rfl⟩)
    go_ret
    exact ⟨by rw [hE.out]; rfl, hb.out⟩
end Go.Proofs.Ytmeffbooabionaa
