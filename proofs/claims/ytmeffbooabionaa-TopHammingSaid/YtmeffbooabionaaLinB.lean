/- linear.Check and the reference's WordErr. (Printed by wip/tools/gen_lin.py.) -/
import Derived.Test.YtmeffbooabionaaLinA
import Derived.Test.YtmeffbooabionaaContU
set_option linter.unusedVariables false
set_option linter.unusedSimpArgs false
namespace Go.Proofs.Ytmeffbooabionaa
open Go.RowKit

/-- What is wrong with the generators of a code: nothing, the width, their number, a word. -/
def wordE (n : Int) (l : List Nat) : Int := if n < 1 ∨ 12 < n then 1 else if 6 < l.length then 2 else if l.any (fun x => decide (2 ^ n.toNat ≤ x)) then 3 else 0
def overU (N : Nat) (x : Int) : Bool := decide ((2 : Int) ^ N ≤ x)
theorem any_overU (N : Nat) (l : List Nat) : (l.map fun x : Nat => (x : Int)).any (overU N) = l.any (fun x => decide (2 ^ N ≤ x)) := by
  rw [List.any_map]
  congr 1
  funext x
  unfold overU
  show decide _ = decide _
  apply decide_eq_decide.2
  have : ((2 ^ N : Nat) : Int) = (2 : Int) ^ N := by rw [Int.natCast_pow]; rfl
  rw [← this]
  exact Int.ofNat_le
set_option maxRecDepth 100000 in
set_option maxHeartbeats 1000000 in
theorem lin_Check_clo (N b : Nat) (x : Int) (w : World) (h0 : 0 ≤ x) (h1 : x < 65536) (hN1 : 1 ≤ N) (hN : N ≤ 12) (hc : w.cell? ⟨b, 0, none⟩ = some (.int .i64 (N : Int))) :
    Calls Try.prog 43 #[.int .u16 x, .pointer (some ⟨b, 0, none⟩)] w fun e w' => e = .returned (.bool (overU N x)) ∧ w' = w := by
  have wx : IntKind.i64.wrap x = x := IntWalk.i64_in _ (by omega)
  have hcase : N = 1 ∨ N = 2 ∨ N = 3 ∨ N = 4 ∨ N = 5 ∨ N = 6 ∨ N = 7 ∨ N = 8 ∨ N = 9 ∨ N = 10 ∨ N = 11 ∨ N = 12 := by omega
  rcases hcase with rfl | rfl | rfl | rfl | rfl | rfl | rfl | rfl | rfl | rfl | rfl | rfl <;>
  (clear hN1 hN
   go_enter Try.func43, Try.ntmps43
   go_wp2
   go_ret
   exact ⟨rfl, rfl⟩)
set_option maxRecDepth 100000 in
set_option maxHeartbeats 2000000 in
theorem lin_Check (nz : Int) (l : List Nat) (ao : Option Addr) (m cap : Nat) (w : World) (hl : l.length = m) (h63 : m ≤ 9223372036854775807) (hlt : ∀ x ∈ l, x < 65536) (hR : Hid (Reads w ao (cellsU l))) :
    Calls Try.prog 17 #[.int .i64 nz, .slice ao m cap] w fun e w' => e = .returned (.int .i64 (wordE nz l)) ∧ Below w.heap.size w w' := by
  have HL := Lib.hid hl
  have hb := Lib.hid ((Below.refl w.heap.size w).alloc (Nat.le_refl _) (.cells #[.int .i64 nz] 3))
  have hc0 : Hid ((w.alloc (.cells #[.int .i64 nz] 3)).cell? ⟨w.heap.size, 0, none⟩ = some (.int .i64 nz)) := by show _ = _; simp [World.cell?_alloc_new]
  have HR := Lib.hid (hR.out.alloc (.cells #[.int .i64 nz] 3))
  clear hl hR
  by_cases h1 : nz < 1
  · have hE : Hid (wordE nz l = 1) := by show _ = _; unfold wordE; rw [if_pos (.inl h1)]
    have d1 : decide (nz < 1) = true := by simp; omega
    go_enter Try.func17, Try.ntmps17
    go_wp2_with fail
    go_ret
    exact ⟨by rw [hE.out]; rfl, hb.out⟩
  · have d1 : decide (nz < 1) = false := by simp; omega
    by_cases h2 : 12 < nz
    · have hE : Hid (wordE nz l = 1) := by show _ = _; unfold wordE; rw [if_pos (.inr h2)]
      have d2 : decide (12 < nz) = true := by simp; omega
      go_enter Try.func17, Try.ntmps17
      go_wp2_with fail
      go_ret
      exact ⟨by rw [hE.out]; rfl, hb.out⟩
    · have d2 : decide (12 < nz) = false := by simp; omega
      by_cases h3 : 6 < m
      · have hE : Hid (wordE nz l = 2) := by show _ = _; unfold wordE; rw [if_neg (by omega), if_pos (by rw [HL.out]; exact h3)]
        have d3 : decide ((6 : Int) < (m : Int)) = true := by simp; omega
        go_enter Try.func17, Try.ntmps17
        go_wp2_with fail
        go_ret
        exact ⟨by rw [hE.out]; rfl, hb.out⟩
      · have d3 : decide ((6 : Int) < (m : Int)) = false := by simp; omega
        obtain ⟨N, rfl⟩ : ∃ N : Nat, nz = (N : Int) := ⟨nz.toNat, by omega⟩
        have hCF : Hid (Calls Try.prog 34 #[.slice ao (l.map fun x : Nat => (x : Int)).length cap, .func (.func 43) #[] #[.pointer (some ⟨w.heap.size, 0, none⟩)]] (w.alloc (.cells #[.int .i64 (N : Int)] 3)) fun e w' => e = .returned (.bool ((l.map fun x : Nat => (x : Int)).any (overU N))) ∧ ∃ n, w' = (w.alloc (.cells #[.int .i64 (N : Int)] 3)).drewN n) := by
          refine containsFunc_u16 43 (.pointer (some ⟨w.heap.size, 0, none⟩)) (fun x W => by go_simp) (overU N) (l.map fun x : Nat => (x : Int)) ao cap _ (by rw [List.length_map, HL.out]; exact h63) (by rw [← cellsU_cast]; exact HR) ?_
          intro x hx q
          obtain ⟨y, hy, rfl⟩ := List.mem_map.1 hx
          have := hlt y hy
          refine (lin_Check_clo N w.heap.size (y : Int) ((w.alloc (.cells #[.int .i64 (N : Int)] 3)).drewN q) (by omega) (by omega) (by omega) (by omega) (show World.cell? _ _ = _ from hc0.out)).mono ?_
          rintro e w' ⟨rfl, rfl⟩
          exact ⟨rfl, 0, rfl⟩
        rw [List.length_map, HL.out, any_overU] at hCF
        have hE : Hid (wordE (N : Int) l = if l.any (fun x => decide (2 ^ N ≤ x)) then 3 else 0) := by
          show _ = _
          unfold wordE
          rw [if_neg (by omega), if_neg (by rw [HL.out]; exact h3), Int.toNat_natCast]
        obtain ⟨B, hB⟩ : ∃ B, l.any (fun x => decide (2 ^ N ≤ x)) = B := ⟨_, rfl⟩
        rw [hB] at hE hCF
        clear hB
        cases B with
        | true =>
          go_enter Try.func17, Try.ntmps17
          go_wp2_with (first | (go_at_call 34; refine hCF.out.mono ?_; rintro e w' ⟨rfl, q, rfl⟩) | fail)
          go_ret
          exact ⟨by rw [hE.out]; rfl, below_drewN hb.out q⟩
        | false =>
          go_enter Try.func17, Try.ntmps17
          go_wp2_with (first | (go_at_call 34; refine hCF.out.mono ?_; rintro e w' ⟨rfl, q, rfl⟩) | fail)
          go_ret
          exact ⟨by rw [hE.out]; rfl, below_drewN hb.out q⟩
set_option maxRecDepth 100000 in
set_option maxHeartbeats 1000000 in
theorem ref_WordErr_clo (N b : Nat) (x : Int) (w : World) (h0 : 0 ≤ x) (h1 : x < 65536) (hN1 : 1 ≤ N) (hN : N ≤ 12) (hc : w.cell? ⟨b, 0, none⟩ = some (.int .i64 (N : Int))) :
    Calls Try.prog 37 #[.int .u16 x, .pointer (some ⟨b, 0, none⟩)] w fun e w' => e = .returned (.bool (overU N x)) ∧ w' = w := by
  have wx : IntKind.i64.wrap x = x := IntWalk.i64_in _ (by omega)
  have hcase : N = 1 ∨ N = 2 ∨ N = 3 ∨ N = 4 ∨ N = 5 ∨ N = 6 ∨ N = 7 ∨ N = 8 ∨ N = 9 ∨ N = 10 ∨ N = 11 ∨ N = 12 := by omega
  rcases hcase with rfl | rfl | rfl | rfl | rfl | rfl | rfl | rfl | rfl | rfl | rfl | rfl <;>
  (clear hN1 hN
   go_enter Try.func37, Try.ntmps37
   go_wp2
   go_ret
   exact ⟨rfl, rfl⟩)
set_option maxRecDepth 100000 in
set_option maxHeartbeats 2000000 in
theorem ref_WordErr (nz : Int) (l : List Nat) (ao : Option Addr) (m cap : Nat) (w : World) (hl : l.length = m) (h63 : m ≤ 9223372036854775807) (hlt : ∀ x ∈ l, x < 65536) (hR : Hid (Reads w ao (cellsU l))) :
    Calls Try.prog 8 #[.int .i64 nz, .slice ao m cap] w fun e w' => e = .returned (.int .i64 (wordE nz l)) ∧ Below w.heap.size w w' := by
  have HL := Lib.hid hl
  have hb := Lib.hid ((Below.refl w.heap.size w).alloc (Nat.le_refl _) (.cells #[.int .i64 nz] 3))
  have hc0 : Hid ((w.alloc (.cells #[.int .i64 nz] 3)).cell? ⟨w.heap.size, 0, none⟩ = some (.int .i64 nz)) := by show _ = _; simp [World.cell?_alloc_new]
  have HR := Lib.hid (hR.out.alloc (.cells #[.int .i64 nz] 3))
  clear hl hR
  by_cases h1 : nz < 1
  · have hE : Hid (wordE nz l = 1) := by show _ = _; unfold wordE; rw [if_pos (.inl h1)]
    have d1 : decide (nz < 1) = true := by simp; omega
    go_enter Try.func8, Try.ntmps8
    go_wp2_with fail
    go_ret
    exact ⟨by rw [hE.out]; rfl, hb.out⟩
  · have d1 : decide (nz < 1) = false := by simp; omega
    by_cases h2 : 12 < nz
    · have hE : Hid (wordE nz l = 1) := by show _ = _; unfold wordE; rw [if_pos (.inr h2)]
      have d2 : decide (12 < nz) = true := by simp; omega
      go_enter Try.func8, Try.ntmps8
      go_wp2_with fail
      go_ret
      exact ⟨by rw [hE.out]; rfl, hb.out⟩
    · have d2 : decide (12 < nz) = false := by simp; omega
      by_cases h3 : 6 < m
      · have hE : Hid (wordE nz l = 2) := by show _ = _; unfold wordE; rw [if_neg (by omega), if_pos (by rw [HL.out]; exact h3)]
        have d3 : decide ((6 : Int) < (m : Int)) = true := by simp; omega
        go_enter Try.func8, Try.ntmps8
        go_wp2_with fail
        go_ret
        exact ⟨by rw [hE.out]; rfl, hb.out⟩
      · have d3 : decide ((6 : Int) < (m : Int)) = false := by simp; omega
        obtain ⟨N, rfl⟩ : ∃ N : Nat, nz = (N : Int) := ⟨nz.toNat, by omega⟩
        have hCF : Hid (Calls Try.prog 34 #[.slice ao (l.map fun x : Nat => (x : Int)).length cap, .func (.func 37) #[] #[.pointer (some ⟨w.heap.size, 0, none⟩)]] (w.alloc (.cells #[.int .i64 (N : Int)] 3)) fun e w' => e = .returned (.bool ((l.map fun x : Nat => (x : Int)).any (overU N))) ∧ ∃ n, w' = (w.alloc (.cells #[.int .i64 (N : Int)] 3)).drewN n) := by
          refine containsFunc_u16 37 (.pointer (some ⟨w.heap.size, 0, none⟩)) (fun x W => by go_simp) (overU N) (l.map fun x : Nat => (x : Int)) ao cap _ (by rw [List.length_map, HL.out]; exact h63) (by rw [← cellsU_cast]; exact HR) ?_
          intro x hx q
          obtain ⟨y, hy, rfl⟩ := List.mem_map.1 hx
          have := hlt y hy
          refine (ref_WordErr_clo N w.heap.size (y : Int) ((w.alloc (.cells #[.int .i64 (N : Int)] 3)).drewN q) (by omega) (by omega) (by omega) (by omega) (show World.cell? _ _ = _ from hc0.out)).mono ?_
          rintro e w' ⟨rfl, rfl⟩
          exact ⟨rfl, 0, rfl⟩
        rw [List.length_map, HL.out, any_overU] at hCF
        have hE : Hid (wordE (N : Int) l = if l.any (fun x => decide (2 ^ N ≤ x)) then 3 else 0) := by
          show _ = _
          unfold wordE
          rw [if_neg (by omega), if_neg (by rw [HL.out]; exact h3), Int.toNat_natCast]
        obtain ⟨B, hB⟩ : ∃ B, l.any (fun x => decide (2 ^ N ≤ x)) = B := ⟨_, rfl⟩
        rw [hB] at hE hCF
        clear hB
        cases B with
        | true =>
          go_enter Try.func8, Try.ntmps8
          go_wp2_with (first | (go_at_call 34; refine hCF.out.mono ?_; rintro e w' ⟨rfl, q, rfl⟩) | fail)
          go_ret
          exact ⟨by rw [hE.out]; rfl, below_drewN hb.out q⟩
        | false =>
          go_enter Try.func8, Try.ntmps8
          go_wp2_with (first | (go_at_call 34; refine hCF.out.mono ?_; rintro e w' ⟨rfl, q, rfl⟩) | fail)
          go_ret
          exact ⟨by rw [hE.out]; rfl, below_drewN hb.out q⟩
end Go.Proofs.Ytmeffbooabionaa
