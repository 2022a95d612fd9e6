/- frac.less, frac.lowest, wholeref.Lowest. -/
import Derived.Test.YthnbhhfbmkklmaaRows
import Derived.Test.YthnbhhfbmkklmaaGcdOf
import Derived.Test.YthnbhhfbmkklmaaEuclidM
import Derived.Test.YthnbhhfbmkklmaaFracX
import Derived.Test.YthnbhhfbmkklmaaTwo
import Derived.Deep.RegionLaw
import Derived.Deep.DrawnRows
namespace Go.Proofs.Ythnbhhfbmkklmaa
open Go.RowKit

set_option maxRecDepth 20000 in
set_option maxHeartbeats 1000000 in
theorem frac_less (P Q R S : Int) (w : World) (h1 : IntKind.i64.wrap (P * S) = P * S) (h2 : IntKind.i64.wrap (R * Q) = R * Q) :
    Calls Try.prog 42 #[.agg #[.int .i64 P, .int .i64 Q], .agg #[.int .i64 R, .int .i64 S]] w fun e w' => e = .returned (.bool (decide (P * S < R * Q))) ∧ Below w.heap.size w w' := by
  have hb := Lib.hid (((below_alloc' w (.cells #[.int .i64 P, .int .i64 Q] 23))).alloc (by simp) (.cells #[.int .i64 R, .int .i64 S] 23))
  go_enter Try.func42, Try.ntmps42
  go_wp2_with fail
  go_ret
  exact ⟨rfl, hb.out⟩
set_option maxRecDepth 20000 in
set_option maxHeartbeats 2000000 in
theorem frac_lowest (p q : Nat) (w : World) (hp : p ≤ 1000000000000000000) (hq : 1 ≤ q) (hq2 : q ≤ 1000000000000000000) :
    Calls Try.prog 43 #[.int .i64 p, .int .i64 q] w fun e w' => e = .returned (.agg #[.int .i64 (p / Nat.gcd p q : Nat), .int .i64 (q / Nat.gcd p q : Nat)]) ∧ Below w.heap.size w w' := by
  obtain ⟨G, hG⟩ : ∃ G, Nat.gcd p q = G := ⟨_, rfl⟩
  have hG0 : 0 < G := by rw [← hG]; exact Nat.gcd_pos_of_pos_right _ hq
  rw [hG]
  obtain ⟨pa, hpa⟩ : ∃ pa, p / G = pa := ⟨_, rfl⟩
  obtain ⟨qa, hqa⟩ : ∃ qa, q / G = qa := ⟨_, rfl⟩
  rw [hpa, hqa]
  have l1 : pa ≤ p := by rw [← hpa]; exact Nat.div_le_self _ _
  have l2 : qa ≤ q := by rw [← hqa]; exact Nat.div_le_self _ _
  have HPA := Lib.hid hpa
  have HQA := Lib.hid hqa
  clear hpa hqa
  have hb := Lib.hid (below_alloc' w (.cells #[.int .i64 0, .int .i64 0] 23))
  obtain ⟨W0, hW0⟩ : ∃ W0, w.alloc (.cells #[.int .i64 0, .int .i64 0] 23) = W0 := ⟨_, rfl⟩
  have x0 : W0.cell? ⟨w.heap.size, 0, none⟩ = some (.int .i64 0) := by rw [← hW0]; simp [World.cell?_alloc_new]
  have x1 : W0.cell? ⟨w.heap.size, 1, none⟩ = some (.int .i64 0) := by rw [← hW0]; simp [World.cell?_alloc_new]
  have hbW : Hid (Below w.heap.size w W0) := by rw [← hW0]; exact hb
  have hp0 : W0.heap[w.heap.size]? = some (.cells #[.int .i64 0, .int .i64 0] 23) := by rw [← hW0]; exact heap_alloc_new w _
  have f0 := heap_frozen hp0 0
  have f1 := heap_frozen hp0 1
  go_enter Try.func43, Try.ntmps43
  go_wp2_with fail
  go_loopw [5, 6] (fun va vb wr => ∃ a b : Nat, va = .int .i64 a ∧ vb = .int .i64 b ∧ a ≤ 1000000000000000000 ∧ b ≤ 1000000000000000000 ∧ Hid (Nat.gcd a b = G) ∧ ∃ n, wr = W0.drewN n) (fun _ vb _ => (intOf vb).toNat)
  case atStart => exact ⟨p, q, rfl, rfl, hp, hq2, hG, 0, rfl⟩
  case round =>
    clear hG
    obtain ⟨a, b, rfl, rfl, ha, hb', hg, n, rfl⟩ := hrel
    by_cases h0 : b = 0
    · subst h0
      have hag : a = G := by have := hg.out; rwa [Nat.gcd_zero_right] at this
      subst hag
      have t1 : (p : Int).tdiv (a : Int) = (pa : Int) := by rw [Int.tdiv_eq_ediv_of_nonneg (by omega), ← HPA.out]; rfl
      have t2 : (q : Int).tdiv (a : Int) = (qa : Int) := by rw [Int.tdiv_eq_ediv_of_nonneg (by omega), ← HQA.out]; rfl
      have u1 : IntKind.i64.wrap (pa : Int) = (pa : Int) := IntWalk.i64_in _ (by omega)
      have u2 : IntKind.i64.wrap (qa : Int) = (qa : Int) := IntWalk.i64_in _ (by omega)
      have a0 : ¬ (a = 0) := by omega
      clear hg
      have Y : ∀ m, ((W0.drewN m).setCell ⟨w.heap.size, 0, none⟩ (.int .i64 pa)).cell? ⟨w.heap.size, 0, none⟩ = some (.int .i64 pa) ∧ (((W0.drewN m).setCell ⟨w.heap.size, 0, none⟩ (.int .i64 pa)).setCell ⟨w.heap.size, 1, none⟩ (.int .i64 qa)).cell? ⟨w.heap.size, 1, none⟩ = some (.int .i64 qa) := fun m => by
        have h1 := heap_set (.int .i64 pa) (j := 0) (heap_drewN (n := m) hp0)
        have h2 := heap_set (.int .i64 qa) (j := 1) h1
        exact ⟨heap_cell h1 0, heap_cell h2 1⟩
      have HY := Lib.hid Y
      clear Y
      go_wp2_with fail
      go_region_law fail
      all_goals
        go_wp2_with fail
        have ya := (HY.out (n + 1)).1
        have yb := (HY.out (n + 1)).2
        refine bodyPost_ret (by simp [results, Try.results43, go_sem, ya, yb]; try rfl) rfl ?_
        exact ⟨rfl, below_set (below_set (below_drewN hbW.out _) (Nat.le_refl _) _) (Nat.le_refl _) _⟩
    · have hbz : ((b : Int) != 0) = true := by simp; omega
      obtain ⟨r, hr⟩ : ∃ r, a % b = r := ⟨_, rfl⟩
      have t1 : (a : Int).tmod (b : Int) = (r : Int) := by rw [← hr, Int.tmod_eq_emod_of_nonneg (by omega)]; rfl
      have hrb : r < b := by rw [← hr]; exact Nat.mod_lt _ (by omega)
      have u1 : IntKind.i64.wrap (r : Int) = (r : Int) := IntWalk.i64_in _ (by omega)
      have hg2 : Hid (Nat.gcd b r = G) := by show _ = _; rw [← hg.out, ← hr, Nat.gcd_comm b, ← Nat.gcd_rec, Nat.gcd_comm]
      clear hr
      go_wp2_with fail
      go_quiet (fail)
      go_wp2_with fail
      go_roundw
      case rel => exact ⟨b, r, by go_num, by go_num, by omega, by omega, hg2, _, by first | rfl | (simp; rfl)⟩
      case measure => simp [intOf]; omega
set_option maxRecDepth 20000 in
set_option maxHeartbeats 2000000 in
theorem ref_Lowest (p q : Nat) (w : World) (hp : p ≤ 1000000000000000000) (hq : 1 ≤ q) (hq2 : q ≤ 1000000000000000000) :
    Calls Try.prog 50 #[.agg #[.int .i64 p, .int .i64 q]] w fun e w' => e = .returned (.agg #[.int .i64 (p / Nat.gcd p q : Nat), .int .i64 (q / Nat.gcd p q : Nat)]) ∧ Below w.heap.size w w' := by
  have CG := Lib.hid (fun W => gcdOf (p : Int) (q : Int) W (by omega) (by omega) (by omega) (by omega))
  have eg : gI (p : Int) (q : Int) = (Nat.gcd p q : Int) := by unfold gI; rw [Int.gcd_natCast_natCast]
  rw [eg] at CG
  obtain ⟨G, hG⟩ : ∃ G, Nat.gcd p q = G := ⟨_, rfl⟩
  have hG0 : 0 < G := by rw [← hG]; exact Nat.gcd_pos_of_pos_right _ hq
  rw [hG] at CG ⊢
  obtain ⟨pa, hpa⟩ : ∃ pa, p / G = pa := ⟨_, rfl⟩
  obtain ⟨qa, hqa⟩ : ∃ qa, q / G = qa := ⟨_, rfl⟩
  rw [hpa, hqa]
  have l1 : pa ≤ p := by rw [← hpa]; exact Nat.div_le_self _ _
  have l2 : qa ≤ q := by rw [← hqa]; exact Nat.div_le_self _ _
  have t1 : (p : Int).tdiv (G : Int) = (pa : Int) := by rw [Int.tdiv_eq_ediv_of_nonneg (by omega), ← hpa]; rfl
  have t2 : (q : Int).tdiv (G : Int) = (qa : Int) := by rw [Int.tdiv_eq_ediv_of_nonneg (by omega), ← hqa]; rfl
  have u1 : IntKind.i64.wrap (pa : Int) = (pa : Int) := IntWalk.i64_in _ (by omega)
  have u2 : IntKind.i64.wrap (qa : Int) = (qa : Int) := IntWalk.i64_in _ (by omega)
  have a0 : ¬ (G = 0) := by omega
  obtain ⟨W0, hW0⟩ : ∃ W0, (w.alloc (.cells #[.int .i64 p, .int .i64 q] 23)).alloc (.cells #[.int .i64 0, .int .i64 0] 23) = W0 := ⟨_, rfl⟩
  have hbW : Hid (Below w.heap.size w W0) := by rw [← hW0]; exact below_two _ _
  have hp0 : W0.heap[w.heap.size + 1]? = some (.cells #[.int .i64 0, .int .i64 0] 23) := by rw [← hW0]; exact heap_new' _ _ _ (by simp)
  have hx0 : W0.heap[w.heap.size]? = some (.cells #[.int .i64 p, .int .i64 q] 23) := by rw [← hW0]; exact heap_alloc_old _ _ (heap_alloc_new w _)
  have x0 := heap_cell hp0 0
  have x1 := heap_cell hp0 1
  have x2 := heap_cell hx0 0
  have x3 := heap_cell hx0 1
  have f0 := heap_frozen hp0 0
  have f1 := heap_frozen hp0 1
  simp only [List.getElem?_toArray, List.getElem?_cons_zero, List.getElem?_cons_succ] at x0 x1 x2 x3
  have h1 := heap_set (.int .i64 pa) (j := 0) hp0
  have h2 := heap_set (.int .i64 qa) (j := 1) h1
  have ya : (W0.setCell ⟨w.heap.size + 1, 0, none⟩ (.int .i64 pa)).cell? ⟨w.heap.size + 1, 0, none⟩ = some (.int .i64 pa) := heap_cell h1 0
  have yb : ((W0.setCell ⟨w.heap.size + 1, 0, none⟩ (.int .i64 pa)).setCell ⟨w.heap.size + 1, 1, none⟩ (.int .i64 qa)).cell? ⟨w.heap.size + 1, 1, none⟩ = some (.int .i64 qa) := heap_cell h2 1
  clear hpa hqa hG eg h1 h2
  go_enter Try.func50, Try.ntmps50
  go_wp2_with (go_at_call 91; refine (CG.out _).mono ?_; rintro e w1 ⟨rfl, rfl⟩)
  go_region_law fail
  all_goals
    go_wp2_with fail
    refine bodyPost_ret (by simp [results, Try.results50, go_sem, ya, yb]; try rfl) rfl ?_
    exact ⟨rfl, below_set (below_set (below_drewN hbW.out _) (by omega) _) (by omega) _⟩
end Go.Proofs.Ythnbhhfbmkklmaa
