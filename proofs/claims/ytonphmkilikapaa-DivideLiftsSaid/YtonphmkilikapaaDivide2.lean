/- Contracts of divide.check and divide.sums, Lift and Lower. -/
import Derived.Test.YtonphmkilikapaaRows
import Derived.Test.YtonphmkilikapaaDivide
namespace Go.Proofs.Ytonphmkilikapaa
open Go.RowKit

theorem chk1 (x : Int) (w : World) : Calls Try.prog 109 #[.int .i64 x] w fun e w' => e = .returned (.bool (bigB x)) ∧ ∃ n, w' = w.drewN n := by
  by_cases h : x < -1000000000
  · have hb : Hid (bigB x = true) := by show _ = _; simp [bigB, h]
    go_enter Try.func109, Try.ntmps109
    go_wp2
    go_ret
    exact ⟨by rw [hb.out]; rfl, 0, rfl⟩
  · have hb : Hid (bigB x = decide (1000000000 < x)) := by show _ = _; simp [bigB, h]
    go_enter Try.func109, Try.ntmps109
    go_wp2
    go_ret
    exact ⟨by rw [hb.out]; rfl, 0, rfl⟩
/-- What is wrong with a list of numbers. -/
def liftE (zs : List Int) : Int := if 60 < zs.length then 2 else if zs.any bigB = true then 1 else 0
set_option maxHeartbeats 1000000 in
theorem divide_check (zs : List Int) (ao : Option Addr) (cap : Nat) (w : World) (h : IntsIn .i64 w ao zs.length zs) :
    Calls Try.prog 105 #[.slice ao zs.length cap] w fun e w' => e = .returned (.int .i64 (liftE zs)) ∧ ∃ n, w' = w.drewN n := by
  have hR := Lib.hid h.2.2.2
  have hl := h.2.1
  by_cases h1 : 60 < zs.length
  · have e : Hid (liftE zs = 2) := by show _ = _; unfold liftE; rw [if_pos h1]
    have d : decide ((60 : Int) < zs.length) = true := by simp; omega
    clear h
    go_enter Try.func105, Try.ntmps105
    go_wp2_with fail
    go_ret
    exact ⟨by rw [e.out]; rfl, 0, rfl⟩
  · have e : Hid (liftE zs = if zs.any bigB = true then 1 else 0) := by show _ = _; unfold liftE; rw [if_neg h1]
    have d : decide ((60 : Int) < zs.length) = false := by simp; omega
    clear h h1
    cases hb : zs.any bigB with
    | true =>
      have HB := Lib.hid hb
      clear hb
      go_enter Try.func105, Try.ntmps105
      go_wp2_with (go_at_call 48; refine (containsFunc_int 109 (fun x W => by kernel_rfl) bigB zs ao cap w hl hR (fun x _ n => chk1 x _)).mono ?_; rw [HB.out]; rintro e w' ⟨rfl, n, rfl⟩)
      go_ret
      exact ⟨by rw [e.out, HB.out]; rfl, _, rfl⟩
    | false =>
      have HB := Lib.hid hb
      clear hb
      go_enter Try.func105, Try.ntmps105
      go_wp2_with (go_at_call 48; refine (containsFunc_int 109 (fun x W => by kernel_rfl) bigB zs ao cap w hl hR (fun x _ n => chk1 x _)).mono ?_; rw [HB.out]; rintro e w' ⟨rfl, n, rfl⟩)
      go_ret
      exact ⟨by rw [e.out, HB.out]; rfl, _, rfl⟩

/-- The list as a function of the number. -/
def fOf (zs : List Int) (d : Nat) : Int := zs.getD (d - 1) 0
/-- What has come together at m: of the divisors below D, and of D if its multiple has been reached. -/
def part (f wt : Nat → Int) (D : Nat) (K : Nat) (m : Nat) : Int := sumL (fun d => if d ∣ m then f d * wt (m / d) else 0) ((List.range D).filter fun d => decide (1 ≤ d)) + (if D ∣ m ∧ m < D * K then f D * wt (m / D) else 0)
theorem part_bd (f wt : Nat → Int) (D K m : Nat) (hf : ∀ d, -1000000000 ≤ f d ∧ f d ≤ 1000000000) (hw : ∀ d, -1 ≤ wt d ∧ wt d ≤ 1) : -(1000000000 * ((D : Int) + 1)) ≤ part f wt D K m ∧ part f wt D K m ≤ 1000000000 * ((D : Int) + 1) := by
  have h1 : ∀ d, -1000000000 ≤ f d * wt (m / d) ∧ f d * wt (m / d) ≤ 1000000000 := by
    intro d
    have hw := hw (m / d)
    have hf := hf d
    have : wt (m / d) = -1 ∨ wt (m / d) = 0 ∨ wt (m / d) = 1 := by omega
    rcases this with h | h | h <;> rw [h] <;> omega
  have h2 : ∀ l : List Nat, -(1000000000 * (l.length : Int)) ≤ sumL (fun d => if d ∣ m then f d * wt (m / d) else 0) l ∧ sumL (fun d => if d ∣ m then f d * wt (m / d) else 0) l ≤ 1000000000 * (l.length : Int) := by
    intro l
    induction l with
    | nil => simp [sumL_nil]
    | cons a l ih =>
      rw [sumL_cons]
      simp only [List.length_cons]
      have h3 := h1 a
      split
      · push_cast; omega
      · push_cast; omega
  have h3 := h2 ((List.range D).filter fun d => decide (1 ≤ d))
  have h4 : ((List.range D).filter fun d => decide (1 ≤ d)).length ≤ D := Nat.le_trans (List.length_filter_le _ _) (by simp)
  unfold part
  have h5 := h1 D
  split <;> omega
theorem part_next (f wt : Nat → Int) (D K : Nat) (m : Nat) (hD : 1 ≤ D) (hm : m < D * K) : part f wt D K m = part f wt (D + 1) 0 m := by
  unfold part
  rw [List.range_succ, List.filter_append, sumL_append]
  have e0 : ([D].filter fun d => decide (1 ≤ d)) = [D] := by simp [hD]
  rw [e0, sumL_cons, sumL_nil, Int.add_zero]
  have e : ¬ (D + 1 ∣ m ∧ m < (D + 1) * 0) := by omega
  rw [if_neg e, Int.add_zero]
  congr 1
  by_cases h : D ∣ m
  · rw [if_pos ⟨h, hm⟩, if_pos h]
  · rw [if_neg (fun h2 => h h2.1), if_neg h]
theorem part_step (f wt : Nat → Int) (D K : Nat) (hD : 1 ≤ D) (m : Nat) : part f wt D (K + 1) m = if m = D * K then part f wt D K m + f D * wt K else part f wt D K m := by
  unfold part
  by_cases h : m = D * K
  · subst h
    have e1 : D ∣ D * K ∧ D * K < D * (K + 1) := ⟨Nat.dvd_mul_right _ _, (Nat.mul_lt_mul_left hD).2 (by omega)⟩
    have e2 : ¬ (D ∣ D * K ∧ D * K < D * K) := by omega
    rw [if_pos e1, if_neg e2, if_pos rfl, Nat.mul_div_cancel_left _ hD, Int.add_zero]
  · rw [if_neg h]
    congr 1
    by_cases h2 : D ∣ m ∧ m < D * K
    · rw [if_pos h2, if_pos ⟨h2.1, by rw [Nat.mul_succ]; omega⟩]
    · rw [if_neg h2]
      by_cases h3 : D ∣ m ∧ m < D * (K + 1)
      · exfalso
        obtain ⟨q, rfl⟩ := h3.1
        have h4 := Nat.lt_of_mul_lt_mul_left h3.2
        rcases Nat.lt_or_ge q K with h5 | h5
        · exact h2 ⟨h3.1, (Nat.mul_lt_mul_left hD).2 h5⟩
        · exact h (by rw [show q = K by omega])
      · rw [if_neg h3]
theorem part_end (f wt : Nat → Int) (N m : Nat) (h1 : 1 ≤ m) (hm : m ≤ N) : part f wt (N + 1) 0 m = sd (fun d => f d * wt (m / d)) m := by
  unfold part
  rw [if_neg (by omega), Int.add_zero, sumL_filter]
  unfold sd divs
  rw [sumL_filter]
  have e : N + 1 = (m + 1) + (N - m) := by omega
  rw [e, List.range_add, sumL_append]
  have e2 : sumL (fun x => if decide (1 ≤ x) = true then if x ∣ m then f x * wt (m / x) else 0 else 0) (List.map (fun x => m + 1 + x) (List.range (N - m))) = 0 := by
    rw [sumL_map]
    refine Eq.trans (sumL_congr fun x _ => ?_) (sumL_zero (List.range (N - m)))
    have : ¬ (m + 1 + x) ∣ m := fun h => by have := Nat.le_of_dvd (by omega) h; omega
    simp [this]
  rw [e2, Int.add_zero]
  refine sumL_congr fun x _ => ?_
  unfold divp
  by_cases h2 : 1 ≤ x <;> by_cases h3 : x ∣ m <;> simp [h2, h3]

theorem intInfoD : ElemRow Try.prog 3 (.int .i64 0) 1 8 := elemRow_of (by kernel_rfl) rfl (by omega)
def partV (f wt : Nat → Int) (D K j : Nat) : Value := .int .i64 (part f wt D K (j + 1))
def SumsPost (f wt : Nat → Int) (N : Nat) (w : World) (e : Ending) (w' : World) : Prop :=
  ∃ g cap, e = .returned (.tuple #[.slice (some ⟨g, 0, none⟩) N cap, .int .i64 0]) ∧ Own w' w.heap.size 3 g N cap (fun j => .int .i64 (sd (fun d => f d * wt ((j + 1) / d)) (j + 1))) ∧ Below w.heap.size w w'
theorem fOf_bd {zs : List Int} (h : liftE zs = 0) (d : Nat) : -1000000000 ≤ fOf zs d ∧ fOf zs d ≤ 1000000000 := by
  unfold liftE at h
  split at h
  · omega
  · split at h
    · omega
    · rename_i h2
      unfold fOf
      by_cases hd : d - 1 < zs.length
      · have hm : zs.getD (d - 1) 0 ∈ zs := by rw [List.getD_eq_getElem?_getD, List.getElem?_eq_getElem hd]; exact List.getElem_mem hd
        have h3 : zs.any bigB = false := by simpa using h2
        rw [List.any_eq_false] at h3
        have := h3 _ hm
        unfold bigB at this
        simp at this
        rw [List.getD_eq_getElem?_getD] at *
        omega
      · rw [List.getD_eq_getElem?_getD, List.getElem?_eq_none (by omega)]; simp
attribute [local go_sem ↓] Go.wp_at_zero Go.wp_at_succ
set_option maxRecDepth 100000 in
set_option maxHeartbeats 4000000 in
theorem divide_sums (fn : FuncId) (wt : Nat → Int) (hfn : ∀ (x : Value) (W : World), (callFunc fn #[x]).run Try.prog W = .ok (.enter fn #[x]) W) (hw : Hid (∀ k, -1 ≤ wt k ∧ wt k ≤ 1))
    (hcall : Hid (∀ (k : Nat) (W : World), 1 ≤ k → k ≤ 60 → Calls Try.prog fn #[.int .i64 k] W fun e w' => e = .returned (.int .i64 (wt k)) ∧ Below W.heap.size W w'))
    (zs : List Int) (ao : Option Addr) (cap : Nat) (w : World) (h : IntsIn .i64 w ao zs.length zs) (hz : liftE zs = 0) :
    Calls Try.prog 89 #[.slice ao zs.length cap, .func (.func fn) #[] #[]] w (SumsPost (fOf zs) wt zs.length w) := by
  have HF := Lib.hid (fOf_bd hz)
  have hN : zs.length ≤ 60 := by unfold liftE at hz; split at hz <;> omega
  have HC := Lib.hid (divide_check zs ao cap w h)
  rw [hz] at HC
  obtain ⟨f, hf⟩ : ∃ f, fOf zs = f := ⟨_, rfl⟩
  obtain ⟨N, hNe⟩ : ∃ N, zs.length = N := ⟨_, rfl⟩
  have hR : Hid (Reads w ao (rowF N fun j => .int .i64 (f (j + 1)))) := by
    have := h.2.2.2
    rw [map_rowF zs (Value.int .i64) 0, hNe] at this
    show Reads _ _ _
    rw [← hf]; exact this
  rw [hf] at HF ⊢
  rw [hNe] at HC hN ⊢
  clear h hz hf hNe
  go_enter Try.func89, Try.ntmps89
  go_wp2_with (first | (go_at_call 105; refine (HC.out).mono ?_; rintro e w' ⟨rfl, n1, rfl⟩) | (at_make; refine make_own rfl _ _ 22 rfl w.heap.size 3 _ 8 Try.underlying22 intInfoD rfl _ _ _ _ N (by rfl) (by rfl) rfl rfl (by omega) (by unfold maxLen; omega) (Nat.le_refl _) ?_; intro w1 hown hg1))
  obtain ⟨g, hgs⟩ : ∃ g, (w.drewN n1).heap.size = g := ⟨_, rfl⟩
  have hO0 := hown
  rw [hgs] at hO0
  have hO1 : Hid (Own w1 w.heap.size 3 g N N (partV f wt 1 0)) := hO0.congr fun j _ => by
    unfold partV part
    rw [if_neg (by omega)]
    have e : ((List.range 1).filter fun d => decide (1 ≤ d)) = [] := by decide
    rw [e]; rfl
  have hb1 : Hid (Below w.heap.size w w1) := (below_dr _ _ n1).trans (below_of_grown hg1 (Nat.le_refl _) (by intro k hk; cases hk))
  have hgs2 : w.heap.size = g := hgs
  rw [hgs2]
  clear hown hg1 hO0 hgs hgs2
  go_loopw [8] (fun vd wr => ∃ D : Nat, vd = .int .i64 D ∧ 1 ≤ D ∧ D ≤ N + 1 ∧ Hid (Own wr w.heap.size 3 g N N (partV f wt D 0)) ∧ Hid (Below w.heap.size w wr)) (fun vd _ => N + 1 - (intOf vd).toNat)
  case atStart => exact ⟨1, rfl, by omega, by omega, hO1, hb1⟩
  case round =>
    obtain ⟨D, rfl, hD1, hDN, hO, hb⟩ := hrel
    by_cases hD : D ≤ N
    · have hO2 : Hid (Own wr w.heap.size 3 g N N (partV f wt D 1)) := hO.out.congr fun j _ => by
        unfold partV part
        rw [if_neg (by omega), if_neg]
        rintro ⟨⟨q, hq⟩, h2⟩
        rw [Nat.mul_one] at h2
        rcases Nat.eq_zero_or_pos q with h3 | h3
        · subst h3; omega
        · have := Nat.mul_le_mul_left D h3; omega
      go_wp2_with fail
      go_loopw [9] (fun vk wi => ∃ K : Nat, vk = .int .i64 K ∧ 1 ≤ K ∧ K ≤ N + 1 ∧ Hid (Own wi w.heap.size 3 g N N (partV f wt D K)) ∧ Hid (Below w.heap.size w wi)) (fun vk _ => N + 1 - (intOf vk).toNat)
      case atStart => exact ⟨1, rfl, by omega, by omega, hO2, hb⟩
      case round =>
        obtain ⟨K, rfl, hK1, hKN, hO3, hb3⟩ := hrel
        obtain ⟨P, hP⟩ : ∃ P, D * K = P := ⟨_, rfl⟩
        have hKP : K ≤ P := by rw [← hP]; have := Nat.mul_le_mul_right K hD1; omega
        have hDK0 : 0 ≤ (D : Int) * K := Int.mul_nonneg (by omega) (by omega)
        have hDK : (D : Int) * K = (P : Int) := by rw [← hP]; push_cast; rfl
        have hPb : P ≤ 4000 := by rw [← hP]; exact Nat.le_trans (Nat.mul_le_mul (show D ≤ 60 by omega) (show K ≤ 61 by omega)) (by omega)
        have hDK1 : (D : Int) * K ≤ 4000 := by omega
        by_cases hPN : P ≤ N
        · have hDKN : (D : Int) * K ≤ N := by omega
          obtain ⟨T, hT⟩ : ∃ T, P - 1 = T := ⟨_, rfl⟩
          obtain ⟨D', hD'⟩ : ∃ D', D - 1 = D' := ⟨_, rfl⟩
          have hTN : T < N := by omega
          have x1 := hO3.out.cell hTN
          have f1 := hO3.out.frozen T
          obtain ⟨b, o, rfl, x2⟩ := (hR.out.below hb3.out) D' _ (rowF_get (fun j => .int .i64 (f (j + 1))) (show D' < N by omega))
          unfold partV at x1
          obtain ⟨x, hx⟩ : ∃ x, part f wt D K (T + 1) = x := ⟨_, rfl⟩
          obtain ⟨y, hy⟩ : ∃ y, f (D' + 1) = y := ⟨_, rfl⟩
          obtain ⟨z, hzz⟩ : ∃ z, wt K = z := ⟨_, rfl⟩
          have hxb := part_bd f wt D K (T + 1) HF.out hw.out
          have hyb := HF.out (D' + 1)
          have hzb := hw.out K
          rw [hx] at x1 hxb
          rw [hy] at x2 hyb
          rw [hzz] at hzb
          have hyz : -1000000000 ≤ y * z ∧ y * z ≤ 1000000000 := by
            have : z = -1 ∨ z = 0 ∨ z = 1 := by omega
            rcases this with h | h | h <;> rw [h] <;> omega
          have w1 : IntKind.i64.wrap ((D : Int) * (K : Int)) = (P : Int) := by rw [hDK]; exact IntWalk.i64_in _ (by omega)
          have w2 : IntKind.i64.wrap ((P : Int) - 1) = (T : Int) := by rw [show (P : Int) - 1 = (T : Int) by omega]; exact IntWalk.i64_in _ (by omega)
          have w3 : IntKind.i64.wrap ((D : Int) - 1) = (D' : Int) := by rw [show (D : Int) - 1 = (D' : Int) by omega]; exact IntWalk.i64_in _ (by omega)
          have w4 : IntKind.i64.wrap (y * z) = y * z := IntWalk.i64_in _ (by omega)
          have w5 : IntKind.i64.wrap (x + y * z) = x + y * z := IntWalk.i64_in _ (by omega)
          have hC := Lib.hid (fun W => hcall.out K W hK1 (by omega))
          rw [hzz] at hC
          have hv : Hid (Value.int .i64 (x + y * z) = partV f wt D (K + 1) T) := by
            show _ = _
            unfold partV
            rw [part_step f wt D K hD1, if_pos (by omega), hx, hzz, ← hy, show D' + 1 = D by omega]
          have hoth : Hid (∀ j, j ≠ T → partV f wt D K j = partV f wt D (K + 1) j) := by
            intro j hj
            unfold partV
            rw [part_step f wt D K hD1, if_neg (by omega)]
          have HXE : Hid (partV f wt D K T = .int .i64 x) := by show _ = _; unfold partV; rw [hx]
          have t0 : (0 : Int) ≤ T := by omega
          have t1 : (T : Int) < N := by omega
          have d0 : (0 : Int) ≤ D' := by omega
          have d1 : (D' : Int) < N := by omega
          clear hP hDK hT hD' hx hy hzz
          go_wp2_with fail
          go_region_law (first | (go_simp; (with_reducible refine (hC.out _).mono ?_); rintro e w7 ⟨rfl, hb7⟩; have hO7 := Lib.hid (hO3.out.below ((below_dr _ wr 1).trans hb7)); have x1' : w7.cell? ⟨g, T, none⟩ = some (.int .i64 x) := (hO7.out.cell hTN).trans (congrArg some HXE.out); have f1' := hO7.out.frozen T; have x2' := (hb7.cell (World.block_lt_of_cell? wr _ x2)).trans x2; have HB7 := Lib.hid (hb3.out.trans (Below.mono ((below_dr _ wr 1).trans hb7) hb3.out.size)); clear hb7))
          all_goals
            have st := hO7.out.store T (.int .i64 (x + y * z))
            have hO8 := Lib.hid (st.1.congr (f' := partV f wt D (K + 1)) fun j _ => by
              by_cases hj : j = T
              · rw [if_pos hj, hj, hv.out]
              · rw [if_neg hj, hoth.out j hj])
            have HB8 := Lib.hid (hO7.out.belowStore HB7.out (Nat.le_refl _) T (.int .i64 (x + y * z)))
            clear st
            go_wp2_with fail
            go_roundw
            case rel => exact ⟨K + 1, by go_num, by omega, by omega, by exact hO8.out, ⟨HB8.out.os, HB8.out.tape, HB8.out.output, HB8.out.size, HB8.out.block⟩⟩
            case measure => simp [intOf]; omega
        · have hDKN : ¬ (D : Int) * K ≤ N := by omega
          have w1 : IntKind.i64.wrap ((D : Int) * (K : Int)) = (P : Int) := by rw [hDK]; exact IntWalk.i64_in _ (by omega)
          have hPN2 : ¬ (P : Int) ≤ N := by omega
          have hO4 := Lib.hid (hO3.out.congr (f' := partV f wt (D + 1) 0) fun j hj => by
            unfold partV
            rw [part_next f wt D K (j + 1) hD1 (by rw [hP]; omega)])
          clear hP hDK
          go_wp2_with fail
          go_roundw
          case rel => exact ⟨D + 1, by go_num, by omega, by omega, hO4, hb3⟩
          case measure => simp [intOf]; omega
    · have hfin : Hid (SumsPost f wt N w (.returned (.tuple #[.slice (some ⟨g, 0, none⟩) N N, .int .i64 0])) wr) := ⟨g, N, rfl, hO.out.congr fun j hj => by
        unfold partV
        have : D = N + 1 := by omega
        rw [this, part_end f wt N (j + 1) (by omega) (by omega)], hb.out⟩
      go_wp2_with fail
      go_ret2
      exact hfin.out
theorem divide_sums_bad (fn : FuncId) (zs : List Int) (ao : Option Addr) (cap : Nat) (w : World) (h : IntsIn .i64 w ao zs.length zs) (hz : liftE zs ≠ 0) :
    Calls Try.prog 89 #[.slice ao zs.length cap, .func (.func fn) #[] #[]] w fun e w' => e = .returned (.tuple #[.slice none 0 0, .int .i64 (liftE zs)]) ∧ ∃ n, w' = w.drewN n := by
  have HC := Lib.hid (divide_check zs ao cap w h)
  obtain ⟨a, ha⟩ : ∃ a, liftE zs = a := ⟨_, rfl⟩
  rw [ha] at HC hz ⊢
  have f1 : (a != 0) = true := by simpa using hz
  clear ha hz h
  go_enter Try.func89, Try.ntmps89
  go_wp2_with (go_at_call 105; refine (HC.out).mono ?_; rintro e w' ⟨rfl, n1, rfl⟩)
  go_ret2
  exact ⟨rfl, _, rfl⟩
theorem divide_Lift (zs : List Int) (ao : Option Addr) (cap : Nat) (w : World) (h : IntsIn .i64 w ao zs.length zs) (hz : liftE zs = 0) :
    Calls Try.prog 53 #[.slice ao zs.length cap] w (SumsPost (fOf zs) (fun _ => 1) zs.length w) := by
  have HC := Lib.hid (divide_sums 90 (fun _ => 1) (fun x W => by kernel_rfl) (fun _ => by omega) (fun k W _ _ => lift1 k W) zs ao cap w h hz)
  clear h hz
  go_enter Try.func53, Try.ntmps53
  go_wp2_with fail
  refine (HC.out).mono ?_
  rintro e w' ⟨g, cp, rfl, hO, hb⟩
  have H : Hid (SumsPost (fOf zs) (fun _ => 1) zs.length w (.returned (.tuple #[.slice (some ⟨g, 0, none⟩) zs.length cp, .int .i64 0])) w') := ⟨g, cp, rfl, hO, hb⟩
  clear hO hb
  go_wp2_with fail
  go_ret2
  exact H.out
theorem mu_bd (n : Nat) : -1 ≤ mu n ∧ mu n ≤ 1 := by
  have key : ∀ l : List (Nat × Nat), -1 ≤ valL muG l ∧ valL muG l ≤ 1 := by
    intro l
    induction l with
    | nil => simp [valL]
    | cons a l ih =>
      simp only [valL, muG]
      split
      · omega
      · omega
  exact key _
theorem divide_Lower (zs : List Int) (ao : Option Addr) (cap : Nat) (w : World) (h : IntsIn .i64 w ao zs.length zs) (hz : liftE zs = 0) :
    Calls Try.prog 54 #[.slice ao zs.length cap] w (SumsPost (fOf zs) mu zs.length w) := by
  have HC := Lib.hid (divide_sums 91 mu (fun x W => by kernel_rfl) (fun k => mu_bd k) (fun k W h1 h2 => lower1 k W h1 (by omega)) zs ao cap w h hz)
  clear h hz
  go_enter Try.func54, Try.ntmps54
  go_wp2_with fail
  refine (HC.out).mono ?_
  rintro e w' ⟨g, cp, rfl, hO, hb⟩
  have H : Hid (SumsPost (fOf zs) mu zs.length w (.returned (.tuple #[.slice (some ⟨g, 0, none⟩) zs.length cp, .int .i64 0])) w') := ⟨g, cp, rfl, hO, hb⟩
  clear hO hb
  go_wp2_with fail
  go_ret2
  exact H.out
theorem divide_Lift_bad (zs : List Int) (ao : Option Addr) (cap : Nat) (w : World) (h : IntsIn .i64 w ao zs.length zs) (hz : liftE zs ≠ 0) :
    Calls Try.prog 53 #[.slice ao zs.length cap] w fun e w' => e = .returned (.tuple #[.slice none 0 0, .int .i64 (liftE zs)]) ∧ ∃ n, w' = w.drewN n := by
  have HC := Lib.hid (divide_sums_bad 90 zs ao cap w h hz)
  clear h hz
  go_enter Try.func53, Try.ntmps53
  go_wp2_with (go_at_call 89; refine (HC.out).mono ?_; rintro e w' ⟨rfl, n1, rfl⟩)
  go_ret2
  exact ⟨rfl, _, rfl⟩
theorem divide_Lower_bad (zs : List Int) (ao : Option Addr) (cap : Nat) (w : World) (h : IntsIn .i64 w ao zs.length zs) (hz : liftE zs ≠ 0) :
    Calls Try.prog 54 #[.slice ao zs.length cap] w fun e w' => e = .returned (.tuple #[.slice none 0 0, .int .i64 (liftE zs)]) ∧ ∃ n, w' = w.drewN n := by
  have HC := Lib.hid (divide_sums_bad 91 zs ao cap w h hz)
  clear h hz
  go_enter Try.func54, Try.ntmps54
  go_wp2_with (go_at_call 89; refine (HC.out).mono ?_; rintro e w' ⟨rfl, n1, rfl⟩)
  go_ret2
  exact ⟨rfl, _, rfl⟩
end Go.Proofs.Ytonphmkilikapaa
