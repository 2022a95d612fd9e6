/- binom.Of: PASCAL's rows. -/
import Derived.Test.YtonphmkilikapabRows
import Derived.Test.YtonphmkilikapabBinom3
import Derived.Deep.RegionHeld3
namespace Go.Proofs.Ytonphmkilikapab
open Go.RowKit

def chR (c j : Nat) : Value := .int .i64 ((ch c j : Nat) : Int)
set_option maxRecDepth 100000 in
set_option maxHeartbeats 2000000 in
theorem binom_Of (n k : Nat) (w : World) (hn : n ≤ 60) (hk : k ≤ n) :
    Calls Try.prog 49 #[.int .i64 n, .int .i64 k] w fun e w' => e = .returned (.tuple #[.int .i64 (ch n k : Nat), .int .i64 0]) ∧ Below w.heap.size w w' := by
  have d1 : decide ((n : Int) < 0) = false := by simp
  have d2 : decide ((60 : Int) < n) = false := by simp; omega
  have d3 : decide ((k : Int) < 0) = false := by simp
  have d4 : decide ((n : Int) < k) = false := by simp; omega
  have d4' : decide (n < k) = false := by simp; omega
  go_enter Try.func49, Try.ntmps49
  go_wp2_with fail
  go_loopw [24, 6] (fun vc vr wr => ∃ c : Nat, vc = .int .i64 c ∧ c ≤ n ∧ Hid (wr.ownsRow w.heap.size 3 1 vr (c + 1) (rowF (c + 1) (chR c))) ∧ Hid (Below w.heap.size w wr)) (fun vc _ _ => n - (intOf vc).toNat)
  case atStart => exact ⟨0, rfl, by omega, own_lit w w.heap.size 3 [.int .i64 1] (Nat.le_refl _) (by unfold maxLen; simp), (Below.refl _ _).alloc (Nat.le_refl _) _⟩
  case round =>
    obtain ⟨c, rfl, hc, hrow, hbel⟩ := hrel
    obtain ⟨g, cap, rfl⟩ := own_form hrow.out (by rw [rowF_succ]; simp)
    by_cases hcn : c < n
    · have hb1 := hbel.out.size
      have hrow1 : Hid ((wr.alloc (.cells #[.int .i64 1] 3)).ownsRow w.heap.size 3 1 (.slice (some ⟨g, 0, none⟩) (c + 1) cap) (c + 1) (rowF (c + 1) (chR c))) := hrow.out.alloc _
      have hnext1 : Hid ((wr.alloc (.cells #[.int .i64 1] 3)).ownsRow w.heap.size 3 1 (.slice (some ⟨wr.heap.size, 0, none⟩) 1 1) 1 (rowF 1 (chR (c + 1)))) := own_lit wr w.heap.size 3 [.int .i64 1] hb1 (by unfold maxLen; simp)
      have hap1 : Hid (Apart (.slice (some ⟨wr.heap.size, 0, none⟩) 1 1) (.slice (some ⟨g, 0, none⟩) (c + 1) cap)) := by
        intro q hq hq2
        have := (hrow.out.lt g rfl).2
        simp only [Value.ownBlock, Option.some.injEq] at hq hq2; omega
      have hbel1 : Hid (Below w.heap.size w (wr.alloc (.cells #[.int .i64 1] 3))) := hbel.out.alloc hb1 _
      go_wp2_with fail
      go_loopw [7, 8] (fun vx vi wi => ∃ i : Nat, vi = .int .i64 i ∧ 1 ≤ i ∧ i ≤ c + 1 ∧ Hid (wi.ownsRow w.heap.size 3 1 vx i (rowF i (chR (c + 1)))) ∧ Hid (wi.ownsRow w.heap.size 3 1 (.slice (some ⟨g, 0, none⟩) (c + 1) cap) (c + 1) (rowF (c + 1) (chR c))) ∧ Hid (Apart vx (.slice (some ⟨g, 0, none⟩) (c + 1) cap)) ∧ Hid (Below w.heap.size w wi)) (fun _ vi _ => c + 1 - (intOf vi).toNat)
      case atStart => exact ⟨1, rfl, by omega, by omega, hnext1, hrow1, hap1, hbel1⟩
      case round =>
        obtain ⟨i, rfl, hi1, hi2, hnx, hrw, hap, hbi⟩ := hrel
        by_cases hic : i < c + 1
        · obtain ⟨t, ht⟩ : ∃ t, i = t + 1 := ⟨i - 1, by omega⟩
          have hit : (i : Int) - 1 = (t : Int) := by omega
          have x1 := Own.cell (f := chR c) hrw.out hic
          have x2 := Own.cell (f := chR c) (i := t) hrw.out (by omega)
          obtain ⟨x, hx⟩ : ∃ x, ch c i = x := ⟨_, rfl⟩
          obtain ⟨y, hy⟩ : ∃ y, ch c t = y := ⟨_, rfl⟩
          unfold chR at x1 x2
          rw [hx] at x1
          rw [hy] at x2
          have hx1 : x ≤ 118264581564861424 := by rw [← hx]; exact ch_le (by omega)
          have hy1 : y ≤ 118264581564861424 := by rw [← hy]; exact ch_le (by omega)
          have hv : Hid (Value.int .i64 ((y : Int) + x) = chR (c + 1) i) := by
            show _ = _
            unfold chR
            rw [← hx, ← hy, ht, ch_succ]
            push_cast; rfl
          have i0 : (0 : Int) < i := by omega
          have i1 : (i : Int) < c + 1 := by omega
          have t0 : (0 : Int) ≤ t := by omega
          have t1 : (t : Int) < c + 1 := by omega
          have wt : IntKind.i64.wrap (t : Int) = t := IntWalk.i64_in _ (by omega)
          have wxy : IntKind.i64.wrap ((y : Int) + x) = (y : Int) + x := IntWalk.i64_in _ (by omega)
          have HX := Lib.hid hx
          have HY := Lib.hid hy
          have hti : t < c + 1 := by omega
          clear hx hy ht
          go_wp2_with fail
          go_region_held3 (fun w' => w'.cell? ⟨g, i, none⟩ = some (.int .i64 x) ∧ w'.cell? ⟨g, t, none⟩ = some (.int .i64 y)) (first | go_keep | (exact ⟨by have := Own.cell (f := chR c) (kept_apart hrw.out hgr2 hap.out) hic; unfold chR at this; rw [HX.out] at this; exact this, by have := Own.cell (f := chR c) (kept_apart hrw.out hgr2 hap.out) hti; unfold chR at this; rw [HY.out] at this; exact this⟩))
            ((go_must (refine step_app1 (by rfl) (.tmp 33) (.tmp 44) 40 (by rfl) w.heap.size 3 _ 8 Try.underlying40 intInfo0 u7 i (rowF i (chR (c + 1))) (by rfl) wr hnx.out (.int .i64 ((y : Int) + x)) (by rfl) rfl (by exact below_dr _ _ 1) (by simp) (by unfold maxLen; omega) (by omega) hbi.out.size ?_); intro g2 cap2 w2 hown2 hgr2 hb2 hat2 hlt2))
          have hrw2 : w2.ownsRow w.heap.size 3 1 (.slice (some ⟨g, 0, none⟩) (c + 1) cap) (c + 1) (rowF (c + 1) (chR c)) := kept_apart hrw.out hgr2 hap.out
          have hap2 : Apart (.slice (some ⟨g2, 0, none⟩) (i + 1) cap2) (.slice (some ⟨g, 0, none⟩) (c + 1) cap) := by
            refine hap.out.grow (k := wr.heap.size + 1) (by rcases hat2 with h | h; · exact .inl h.symm
                                                            · right; rw [h]; rfl) ?_
            intro q hq
            have := (hrw.out.lt q hq).2
            omega
          have hnew : w2.ownsRow w.heap.size 3 1 (.slice (some ⟨g2, 0, none⟩) (i + 1) cap2) (i + 1) (rowF (i + 1) (chR (c + 1))) := by rw [rowF_succ, ← hv.out]; exact hown2
          have HN := Lib.hid hnew; have HR := Lib.hid hrw2; have HA := Lib.hid hap2; have HB := Lib.hid (hbi.out.trans hb2)
          clear hnew hrw2 hap2 hown2 hgr2 hb2 hat2
          go_wp2_with fail
          go_roundw
          case rel => exact ⟨i + 1, by go_num, by omega, by omega, HN, HR, HA, HB⟩
          case measure => simp [intOf]; omega
        · have hie : Hid (i = c + 1) := by show _ = _; omega
          have hnx2 : Hid (wr.ownsRow w.heap.size 3 1 u7 (c + 1) (rowF (c + 1) (chR (c + 1)))) := by have := hnx.out; rw [hie.out] at this; exact this
          have hc60 : c + 1 ≤ 60 := by omega
          go_wp2_with (at_builtin; go_must (refine app_one rfl (.tmp 46) (.tmp 47) 40 rfl w.heap.size 3 _ 1 8 Try.underlying40 intInfo0 u7 (c + 1) (rowF (c + 1) (chR (c + 1))) (by rfl) hnx2.out [.int .i64 1] (by rfl) rfl (by intro u hu; simp at hu; subst hu; rfl) (by unfold maxLen; omega) (by omega) hbi.out.size ?_); intro v2 w2 hown2 hgr2 hb2)
          have hnew : Hid (w2.ownsRow w.heap.size 3 1 v2 (c + 1 + 1) (rowF (c + 1 + 1) (chR (c + 1)))) := by
            rw [rowF_succ]
            have e : chR (c + 1) (c + 1) = .int .i64 1 := by unfold chR; rw [ch_self]; rfl
            rw [e]; exact hown2
          go_roundw
          case rel => exact ⟨c + 1, by go_num, by omega, hnew, hbi.out.trans hb2⟩
          case measure => simp [intOf]; omega
    · obtain rfl : c = n := by omega
      have hx := Own.cell (f := chR c) (i := k) hrow.out (by omega)
      unfold chR at hx
      have hkc : (k : Int) < c + 1 := by omega
      go_wp2_with fail
      go_ret2
      exact ⟨rfl, hbel.out⟩
theorem binom_Of_bad (n k : Int) (w : World) (h : n < 0 ∨ 60 < n) :
    Calls Try.prog 49 #[.int .i64 n, .int .i64 k] w fun e w' => e = .returned (.tuple #[.int .i64 0, .int .i64 1]) ∧ w = w' := by
  by_cases h1 : n < 0
  · clear h
    go_enter Try.func49, Try.ntmps49
    go_wp2_with fail
    go_ret2
    exact ⟨rfl, rfl⟩
  · have d : decide (60 < n) = true := by simp; omega
    clear h
    go_enter Try.func49, Try.ntmps49
    go_wp2_with fail
    go_ret2
    exact ⟨rfl, rfl⟩
theorem binom_Of_out (n k : Int) (w : World) (h : ¬ (n < 0 ∨ 60 < n)) (hk : k < 0 ∨ n < k) :
    Calls Try.prog 49 #[.int .i64 n, .int .i64 k] w fun e w' => e = .returned (.tuple #[.int .i64 0, .int .i64 0]) ∧ w = w' := by
  have d1 : decide (n < 0) = false := by simp; omega
  have d2 : decide (60 < n) = false := by simp; omega
  by_cases h1 : k < 0
  · clear h hk
    go_enter Try.func49, Try.ntmps49
    go_wp2_with fail
    go_ret2
    exact ⟨rfl, rfl⟩
  · have d4 : decide (n < k) = true := by simp; omega
    clear h hk
    go_enter Try.func49, Try.ntmps49
    go_wp2_with fail
    go_ret2
    exact ⟨rfl, rfl⟩
end Go.Proofs.Ytonphmkilikapab
