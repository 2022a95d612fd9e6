/- frac.Near. (Printed by wip/tools/gen_near.py.) -/
import Derived.Test.YthnbhhfbmkklmaaNear1
import Derived.Test.YthnbhhfbmkklmaaNearM
import Derived.Deep.RegionHeld
import Derived.Deep.RegionHeld3
namespace Go.Proofs.Ythnbhhfbmkklmaa
open Go.RowKit

/-- The cells of the call: the fraction, the two results, the two that are nearest. -/
structure NSt (H B7 B8 : Nat) (P Q l1 l2 h1 h2 : Nat) (w wr : World) : Prop where
  x : wr.heap[H]? = some (.cells #[.int .i64 P, .int .i64 Q] 23)
  r1 : wr.heap[H + 1]? = some (.cells #[.int .i64 0, .int .i64 0] 23)
  r2 : wr.heap[H + 2]? = some (.cells #[.int .i64 0, .int .i64 0] 23)
  lo : wr.heap[B7]? = some (.cells #[.int .i64 l1, .int .i64 l2] 23)
  hi : wr.heap[B8]? = some (.cells #[.int .i64 h1, .int .i64 h2] 23)
  bel : Below H w wr
  b7 : H + 2 < B7
  b8 : H + 2 < B8
  ne : B7 ≠ B8
theorem heap_lt {w : World} {k : Nat} {o : Obj} (h : w.heap[k]? = some o) : k < w.heap.size := (Array.getElem?_eq_some_iff.1 h).1
theorem heap_below {w w' : World} {k : Nat} {o : Obj} (h : w.heap[k]? = some o) (hb : Below w.heap.size w w') : w'.heap[k]? = some o := by rw [hb.block k (heap_lt h)]; exact h
theorem NSt.below {H B7 B8 P Q l1 l2 h1 h2 : Nat} {w wr wr' : World} (h : NSt H B7 B8 P Q l1 l2 h1 h2 w wr) (hb : Below wr.heap.size wr wr') : NSt H B7 B8 P Q l1 l2 h1 h2 w wr' :=
  ⟨heap_below h.x hb, heap_below h.r1 hb, heap_below h.r2 hb, heap_below h.lo hb, heap_below h.hi hb, h.bel.trans (hb.mono (by have := heap_lt h.x; omega)), h.b7, h.b8, h.ne⟩
theorem NSt.alloc {H B7 B8 P Q l1 l2 h1 h2 : Nat} {w wr : World} (h : NSt H B7 B8 P Q l1 l2 h1 h2 w wr) (o : Obj) : NSt H B7 B8 P Q l1 l2 h1 h2 w (wr.alloc o) := h.below ((Below.refl _ _).alloc (Nat.le_refl _) o)
theorem NSt.setLo {H B7 B8 P Q l1 l2 h1 h2 : Nat} {w wr : World} (h : NSt H B7 B8 P Q l1 l2 h1 h2 w wr) (a q : Nat) : NSt H B7 B8 P Q a q h1 h2 w ((wr.setCell ⟨B7, 0, none⟩ (.int .i64 a)).setCell ⟨B7, 1, none⟩ (.int .i64 q)) := by
  have k1 := h.b7
  have k2 := h.b8
  have k3 := h.ne
  exact ⟨by rw [heap_set_far _ (by omega), heap_set_far _ (by omega)]; exact h.x, by rw [heap_set_far _ (by omega), heap_set_far _ (by omega)]; exact h.r1, by rw [heap_set_far _ (by omega), heap_set_far _ (by omega)]; exact h.r2, by rw [heap_set _ (heap_set _ h.lo)]; rfl, by rw [heap_set_far _ (by omega), heap_set_far _ (by omega)]; exact h.hi, below_set (below_set h.bel (by omega) _) (by omega) _, k1, k2, k3⟩
theorem NSt.setHi {H B7 B8 P Q l1 l2 h1 h2 : Nat} {w wr : World} (h : NSt H B7 B8 P Q l1 l2 h1 h2 w wr) (a q : Nat) : NSt H B7 B8 P Q l1 l2 a q w ((wr.setCell ⟨B8, 0, none⟩ (.int .i64 a)).setCell ⟨B8, 1, none⟩ (.int .i64 q)) := by
  have k1 := h.b7
  have k2 := h.b8
  have k3 := h.ne
  exact ⟨by rw [heap_set_far _ (by omega), heap_set_far _ (by omega)]; exact h.x, by rw [heap_set_far _ (by omega), heap_set_far _ (by omega)]; exact h.r1, by rw [heap_set_far _ (by omega), heap_set_far _ (by omega)]; exact h.r2, by rw [heap_set_far _ (by omega), heap_set_far _ (by omega)]; exact h.lo, by rw [heap_set _ (heap_set _ h.hi)]; rfl, below_set (below_set h.bel (by omega) _) (by omega) _, k1, k2, k3⟩
theorem fr_cells {w : World} {B : Nat} {p q : Nat} (h : w.heap[B]? = some (.cells #[.int .i64 p, .int .i64 q] 23)) : w.cell? ⟨B, 0, none⟩ = some (.int .i64 p) ∧ w.cell? ⟨B, 1, none⟩ = some (.int .i64 q) ∧ w.frozen? ⟨B, 0, none⟩ = false ∧ w.frozen? ⟨B, 1, none⟩ = false :=
  ⟨heap_cell h 0, heap_cell h 1, heap_frozen h 0, heap_frozen h 1⟩
theorem lowN_q (P Q : Nat) {q : Nat} (h : 2 ≤ q) : lowN P Q (q + 1 - 2) = if (lowN P Q (q - 2)).1 * q < P * q / Q * (lowN P Q (q - 2)).2 then (P * q / Q, q) else lowN P Q (q - 2) := by
  obtain ⟨i, rfl⟩ : ∃ i, q = i + 2 := ⟨q - 2, by omega⟩
  rfl
theorem highN_q (P Q : Nat) {q : Nat} (h : 2 ≤ q) : highN P Q (q + 1 - 2) = if (P * q + Q - 1) / Q * (highN P Q (q - 2)).2 < (highN P Q (q - 2)).1 * q then ((P * q + Q - 1) / Q, q) else highN P Q (q - 2) := by
  obtain ⟨i, rfl⟩ : ∃ i, q = i + 2 := ⟨q - 2, by omega⟩
  rfl
theorem nat_wrap {a b : Nat} (h : a * b ≤ 4000000000000000000) : IntKind.i64.wrap ((a : Int) * (b : Int)) = (a : Int) * (b : Int) := by
  rw [← Int.natCast_mul]
  exact IntWalk.i64_in _ (by omega)
theorem two_below {X w' : World} (hb : Below X.heap.size X w') {a b : Addr} {u v : Value} (h : X.cell? a = some u ∧ X.cell? b = some v) : w'.cell? a = some u ∧ w'.cell? b = some v :=
  ⟨(hb.cell (World.block_lt_of_cell? X _ h.1)).trans h.1, (hb.cell (World.block_lt_of_cell? X _ h.2)).trans h.2⟩
theorem four_below {X w' : World} (hb : Below X.heap.size X w') {a b c d : Addr} {u v x y : Value} (h : X.cell? a = some u ∧ X.cell? b = some v ∧ X.cell? c = some x ∧ X.cell? d = some y) : w'.cell? a = some u ∧ w'.cell? b = some v ∧ w'.cell? c = some x ∧ w'.cell? d = some y := by
  obtain ⟨h1, h2⟩ := two_below hb ⟨h.1, h.2.1⟩
  obtain ⟨h3, h4⟩ := two_below hb h.2.2
  exact ⟨h1, h2, h3, h4⟩
theorem res4 {X w : World} {H R1 R2 : Nat} {u1 u2 v1 v2 : Nat} (h1 : X.heap[R1]? = some (.cells #[.int .i64 u1, .int .i64 u2] 23)) (h2 : X.heap[R2]? = some (.cells #[.int .i64 v1, .int .i64 v2] 23)) (ne : R1 ≠ R2) (k1 : H ≤ R1) (k2 : H ≤ R2) (hb : Below H w X) (a b c d : Nat) :
    ∃ Y, (((X.setCell ⟨R1, 0, none⟩ (.int .i64 a)).setCell ⟨R1, 1, none⟩ (.int .i64 b)).setCell ⟨R2, 0, none⟩ (.int .i64 c)).setCell ⟨R2, 1, none⟩ (.int .i64 d) = Y ∧ Y.cell? ⟨R1, 0, none⟩ = some (.int .i64 a) ∧ Y.cell? ⟨R1, 1, none⟩ = some (.int .i64 b) ∧ Y.cell? ⟨R2, 0, none⟩ = some (.int .i64 c) ∧ Y.cell? ⟨R2, 1, none⟩ = some (.int .i64 d) ∧ Below H w Y := by
  have g1 := heap_set (.int .i64 b) (j := 1) (heap_set (.int .i64 a) (j := 0) h1)
  have g2 : ((X.setCell ⟨R1, 0, none⟩ (.int .i64 a)).setCell ⟨R1, 1, none⟩ (.int .i64 b)).heap[R2]? = some (.cells #[.int .i64 v1, .int .i64 v2] 23) := by rw [heap_set_far _ (by omega), heap_set_far _ (by omega)]; exact h2
  have g3 := heap_set (.int .i64 d) (j := 1) (heap_set (.int .i64 c) (j := 0) g2)
  have g4 := (heap_set_far (W := ((X.setCell ⟨R1, 0, none⟩ (.int .i64 a)).setCell ⟨R1, 1, none⟩ (.int .i64 b)).setCell ⟨R2, 0, none⟩ (.int .i64 c)) (B := R2) (B' := R1) (j := 1) (.int .i64 d) (by omega)).trans ((heap_set_far (W := (X.setCell ⟨R1, 0, none⟩ (.int .i64 a)).setCell ⟨R1, 1, none⟩ (.int .i64 b)) (B := R2) (B' := R1) (j := 0) (.int .i64 c) (by omega)).trans g1)
  exact ⟨_, rfl, heap_cell g4 0, heap_cell g4 1, heap_cell g3 0, heap_cell g3 1, below_set (below_set (below_set (below_set hb k1 _) k1 _) k2 _) k2 _⟩
def NearPost (P Q most : Nat) (w : World) (e : Ending) (w' : World) : Prop :=
  e = .returned (.tuple #[.agg #[.int .i64 ((lowN P Q (most - 1)).1 / Nat.gcd (lowN P Q (most - 1)).1 (lowN P Q (most - 1)).2 : Nat), .int .i64 ((lowN P Q (most - 1)).2 / Nat.gcd (lowN P Q (most - 1)).1 (lowN P Q (most - 1)).2 : Nat)], .agg #[.int .i64 ((highN P Q (most - 1)).1 / Nat.gcd (highN P Q (most - 1)).1 (highN P Q (most - 1)).2 : Nat), .int .i64 ((highN P Q (most - 1)).2 / Nat.gcd (highN P Q (most - 1)).1 (highN P Q (most - 1)).2 : Nat)], .int .i64 0]) ∧ Below w.heap.size w w'
set_option maxRecDepth 100000 in
set_option maxHeartbeats 16000000 in
theorem frac_Near (P Q most : Nat) (w : World) (hP : P ≤ 1000000) (hQ1 : 1 ≤ Q) (hQ : Q ≤ 1000000) (hm1 : 1 ≤ most) (hm : most ≤ 1000000) :
    Calls Try.prog 8 #[.agg #[.int .i64 P, .int .i64 Q], .int .i64 most] w (NearPost P Q most w) := by
  have CR := Lib.hid (fun X => frac_right (P : Int) (Q : Int) X)
  have hrg : rgB (P : Int) (Q : Int) = true := rgB_iff.2 ⟨by omega, by omega, by omega, by omega⟩
  rw [hrg] at CR
  clear hrg
  have d1 : decide ((most : Int) < 1) = false := by simp; omega
  have d2 : decide ((1000000 : Int) < most) = false := by simp; omega
  have qz : ¬ (Q = 0) := by omega
  obtain ⟨H, hH⟩ : ∃ H, w.heap.size = H := ⟨_, rfl⟩
  obtain ⟨W0, hW0⟩ : ∃ W0, ((w.alloc (.cells #[.int .i64 P, .int .i64 Q] 23)).alloc (.cells #[.int .i64 0, .int .i64 0] 23)).alloc (.cells #[.int .i64 0, .int .i64 0] 23) = W0 := ⟨_, rfl⟩
  have x0 : W0.heap[H]? = some (.cells #[.int .i64 P, .int .i64 Q] 23) := by rw [← hW0, ← hH]; exact heap_alloc_old _ _ (heap_alloc_old _ _ (heap_alloc_new w _))
  have r0 : W0.heap[H + 1]? = some (.cells #[.int .i64 0, .int .i64 0] 23) := by rw [← hW0, ← hH]; exact heap_alloc_old _ _ (heap_new' _ _ _ (by simp))
  have s0 : W0.heap[H + 2]? = some (.cells #[.int .i64 0, .int .i64 0] 23) := by rw [← hW0, ← hH]; exact heap_new' _ _ _ (by simp)
  have bW0 : Below w.heap.size w W0 := by rw [← hW0]; exact (below_two _ _).alloc (by simp; omega) _
  obtain ⟨xx0, xx1, _, _⟩ := fr_cells x0
  have pq1 : (P : Int).tdiv (Q : Int) = ((P / Q : Nat) : Int) := by rw [Int.tdiv_eq_ediv_of_nonneg (by omega)]; rfl
  have pq2 : ((P : Int) + (Q : Int) - 1).tdiv (Q : Int) = (((P + Q - 1) / Q : Nat) : Int) := by rw [show (P : Int) + Q - 1 = ((P + Q - 1 : Nat) : Int) by omega, Int.tdiv_eq_ediv_of_nonneg (by omega)]; rfl
  have lb1 := Nat.div_le_self P Q
  have lb2 := Nat.div_le_self (P + Q - 1) Q
  obtain ⟨l0, hl0⟩ : ∃ l0, P / Q = l0 := ⟨_, rfl⟩
  obtain ⟨h0, hh0⟩ : ∃ h0, (P + Q - 1) / Q = h0 := ⟨_, rfl⟩
  rw [hl0] at pq1 lb1
  rw [hh0] at pq2 lb2
  have u1 : IntKind.i64.wrap (l0 : Int) = (l0 : Int) := IntWalk.i64_in _ (by omega)
  have u2 : IntKind.i64.wrap (h0 : Int) = (h0 : Int) := IntWalk.i64_in _ (by omega)
  have wa : IntKind.i64.wrap ((P : Int) + (Q : Int)) = (P : Int) + (Q : Int) := IntWalk.i64_in _ (by omega)
  have wb : IntKind.i64.wrap ((P : Int) + (Q : Int) - 1) = (P : Int) + (Q : Int) - 1 := IntWalk.i64_in _ (by omega)
  have HL0 : Hid ((l0, 1) = lowN P Q 0) := Lib.hid (by rw [← hl0]; rfl)
  have HH0 : Hid ((h0, 1) = highN P Q 0) := Lib.hid (by rw [← hh0]; rfl)
  clear hl0 hh0
  go_enter Try.func8, Try.ntmps8
  go_wp2_with (first
    | (go_at_call 41; (with_reducible refine (CR.out _).mono ?_); rintro e w1 ⟨rfl, b1⟩; have x1 := heap_below x0 b1; have r1 := heap_below r0 b1; have s1 := heap_below s0 b1; obtain ⟨xc0, xc1, _, _⟩ := fr_cells x1)
    | fail)
  have hx9 := heap_lt x1
  have bW1 : Below H w w1 := by rw [← hH]; exact bW0.trans (b1.mono bW0.size)
  have hx8 := heap_lt s1
  obtain ⟨B, hB⟩ : ∃ B, w1.heap.size = B := ⟨_, rfl⟩
  rw [hB] at hx9 hx8
  go_region_held (fun w' => w'.cell? ⟨H, 0, none⟩ = some (.int .i64 P) ∧ w'.cell? ⟨H, 1, none⟩ = some (.int .i64 Q)) (go_keep) (fail)
  · go_wp2_with fail
    go_loopw [9] (fun vq wr => ∃ q : Nat, vq = .int .i64 q ∧ 2 ≤ q ∧ q ≤ most + 1 ∧ Hid (NSt H (B) (B + 1) P Q (lowN P Q (q - 2)).1 (lowN P Q (q - 2)).2 (highN P Q (q - 2)).1 (highN P Q (q - 2)).2 w wr)) (fun vq _ => most + 1 - (intOf vq).toNat)
    case atStart =>
      refine ⟨2, rfl, by omega, by omega, Lib.hid ?_⟩
      show NSt H (B) (B + 1) P Q (lowN P Q 0).1 (lowN P Q 0).2 (highN P Q 0).1 (highN P Q 0).2 w _
      rw [← HL0.out, ← HH0.out]
      exact ⟨heap_drew (heap_alloc_old _ _ (heap_alloc_old _ _ x1)), heap_drew (heap_alloc_old _ _ (heap_alloc_old _ _ r1)), heap_drew (heap_alloc_old _ _ (heap_alloc_old _ _ s1)), heap_drew (heap_alloc_old _ _ (heap_new' _ _ _ hB)), heap_drew (heap_new' _ _ _ (by simp [hB])), below_drew1 ((bW1.alloc (by omega) _).alloc (by simp; omega) _), by omega, by omega, by omega⟩
    case round =>
      clear x1 r1 s1 xc0 xc1 b1 hB bW1 lb1 lb2 pq1 pq2 u1 u2 wa wb HL0 HH0
      try clear bW0
      obtain ⟨q, rfl, hq2, hqm, hN⟩ := hrel
      skip
      obtain ⟨wo, rfl⟩ : ∃ wo, wo = wr := ⟨_, rfl⟩
      obtain ⟨bl1, bl2, bl3⟩ := lowN_bd (P := P) (Q := Q) hP hQ (q - 2) (by omega)
      obtain ⟨bh1, bh2, bh3⟩ := highN_bd (P := P) (Q := Q) hP hQ (q - 2) (by omega)
      by_cases hlt : q ≤ most
      · have e1 : decide ((q : Int) ≤ most) = true := by simp; omega
        have HL := Lib.hid (lowN_q P Q hq2)
        have HH := Lib.hid (highN_q P Q hq2)
        obtain ⟨⟨l1, l2⟩, hl⟩ : ∃ p, lowN P Q (q - 2) = p := ⟨_, rfl⟩
        obtain ⟨⟨h1, h2⟩, hh⟩ : ∃ p, highN P Q (q - 2) = p := ⟨_, rfl⟩
        rw [hl] at hN HL bl1 bl2 bl3
        rw [hh] at hN HH bh1 bh2 bh3
        simp only at bl1 bl2 bl3 bh1 bh2 bh3
        clear hl hh
        obtain ⟨R, hR⟩ : ∃ R, P * q = R := ⟨_, rfl⟩
        have hR1 : R ≤ 1000000000000 := by rw [← hR]; exact nmul_bd hP (by omega)
        have pr : (P : Int) * (q : Int) = (R : Int) := by rw [← Int.natCast_mul, hR]
        have pw : IntKind.i64.wrap (R : Int) = (R : Int) := IntWalk.i64_in _ (by omega)
        obtain ⟨a, ha⟩ : ∃ a, R / Q = a := ⟨_, rfl⟩
        obtain ⟨b, hb⟩ : ∃ b, (R + Q - 1) / Q = b := ⟨_, rfl⟩
        rw [hR, ha] at HL
        rw [hR, hb] at HH
        have ab1 : a ≤ 2000000000000 := by rw [← ha]; exact Nat.le_trans (Nat.div_le_self _ _) (by omega)
        have ab2 : b ≤ 2000000000000 := by rw [← hb]; exact Nat.le_trans (Nat.div_le_self _ _) (by omega)
        have qa : (R : Int).tdiv (Q : Int) = (a : Int) := by rw [Int.tdiv_eq_ediv_of_nonneg (by omega), ← ha]; rfl
        have qb : ((R : Int) + (Q : Int) - 1).tdiv (Q : Int) = (b : Int) := by rw [show (R : Int) + Q - 1 = ((R + Q - 1 : Nat) : Int) by omega, Int.tdiv_eq_ediv_of_nonneg (by omega), ← hb]; rfl
        have ua : IntKind.i64.wrap (a : Int) = (a : Int) := IntWalk.i64_in _ (by omega)
        have ub : IntKind.i64.wrap (b : Int) = (b : Int) := IntWalk.i64_in _ (by omega)
        have wa : IntKind.i64.wrap ((R : Int) + (Q : Int)) = (R : Int) + (Q : Int) := IntWalk.i64_in _ (by omega)
        have wb : IntKind.i64.wrap ((R : Int) + (Q : Int) - 1) = (R : Int) + (Q : Int) - 1 := IntWalk.i64_in _ (by omega)
        clear ha hb hR
        have wl1 := nat_wrap (a := l1) (b := q) (by have := nprod_bd bl1 (show q ≤ 1000000 by omega); omega)
        have wl2 := nat_wrap (a := a) (b := l2) (by have := nprod_bd ab1 (show l2 ≤ 1000000 by omega); omega)
        have wh1 := nat_wrap (a := b) (b := h2) (by have := nprod_bd ab2 (show h2 ≤ 1000000 by omega); omega)
        have wh2 := nat_wrap (a := h1) (b := q) (by have := nprod_bd bh1 (show q ≤ 1000000 by omega); omega)
        have hN0 : NSt H (B) (B + 1) P Q l1 l2 h1 h2 w wo := hN.out
        have hN1 := hN0.alloc (.cells #[.int .i64 a, .int .i64 q] 23)
        obtain ⟨W1, hW1⟩ : ∃ W1, wo.alloc (.cells #[.int .i64 a, .int .i64 q] 23) = W1 := ⟨_, rfl⟩
        have hA : W1.heap[wo.heap.size]? = some (.cells #[.int .i64 a, .int .i64 q] 23) := by rw [← hW1]; exact heap_alloc_new _ _
        rw [hW1] at hN1
        obtain ⟨xa1, xa2, _, _⟩ := fr_cells hA
        obtain ⟨xl1, xl2, _, _⟩ := fr_cells hN1.lo
        obtain ⟨xx1, xx2, _, _⟩ := fr_cells hN0.x
        by_cases k1 : l1 * q < a * l2
        · by_cases k2 : b * h2 < h1 * q
          · have CL1 : Hid (∀ X, Calls Try.prog 42 #[.agg #[.int .i64 l1, .int .i64 l2], .agg #[.int .i64 a, .int .i64 q]] X fun e w' => e = .returned (.bool true) ∧ Below X.heap.size X w') := fun X => by have h := frac_less l1 l2 a q X wl1 wl2; rwa [show decide ((l1 : Int) * q < a * l2) = true by rw [← Int.natCast_mul, ← Int.natCast_mul]; simp only [decide_eq_true_eq]; omega] at h
            have CL2 : Hid (∀ X, Calls Try.prog 42 #[.agg #[.int .i64 b, .int .i64 q], .agg #[.int .i64 h1, .int .i64 h2]] X fun e w' => e = .returned (.bool true) ∧ Below X.heap.size X w') := fun X => by have h := frac_less b q h1 h2 X wh1 wh2; rwa [show decide ((b : Int) * h2 < h1 * q) = true by rw [← Int.natCast_mul, ← Int.natCast_mul]; simp only [decide_eq_true_eq]; omega] at h
            have HLO2 : Hid (lowN P Q (q + 1 - 2) = (a, q)) := Lib.hid (HL.out.trans (if_pos k1))
            have HHI2 : Hid (highN P Q (q + 1 - 2) = (b, q)) := Lib.hid (HH.out.trans (if_pos k2))
            clear wl1 wl2 wh1 wh2 k1 k2
            go_wp2_with (first
              | (go_at_call 42; (with_reducible refine (CL1.out _).mono ?_); rintro e w2 ⟨rfl, b2⟩; have hN2 := hN1.below b2; have hA2 := heap_below hA b2; obtain ⟨ya1, ya2, _, _⟩ := fr_cells hA2; obtain ⟨yl1, yl2, yl3, yl4⟩ := fr_cells hN2.lo; have hN3 := hN2.setLo a q; obtain ⟨W3, hW3⟩ : ∃ W3, (w2.setCell ⟨B, 0, none⟩ (.int .i64 a)).setCell ⟨B, 1, none⟩ (.int .i64 q) = W3 := ⟨_, rfl⟩; rw [hW3] at hN3; obtain ⟨zx1, zx2, _, _⟩ := fr_cells hN3.x; obtain ⟨W4, hW4⟩ : ∃ W4, W3.alloc (.cells #[.int .i64 b, .int .i64 q] 23) = W4 := ⟨_, rfl⟩; have hN4 := hN3.alloc (.cells #[.int .i64 b, .int .i64 q] 23); rw [hW4] at hN4; have hB4 : W4.heap[W3.heap.size]? = some (.cells #[.int .i64 b, .int .i64 q] 23) := (by rw [← hW4]; exact heap_alloc_new _ _); obtain ⟨zb1, zb2, _, _⟩ := fr_cells hB4; obtain ⟨zh1, zh2, _, _⟩ := fr_cells hN4.hi; obtain ⟨zy1, zy2, _, _⟩ := fr_cells hN4.x)
              | (go_at_call 42; (with_reducible refine (CL2.out _).mono ?_); rintro e w5 ⟨rfl, b5⟩; have hN5 := hN4.below b5; have hB5 := heap_below hB4 b5; obtain ⟨vb1, vb2, _, _⟩ := fr_cells hB5; obtain ⟨vh1, vh2, vh3, vh4⟩ := fr_cells hN5.hi; have hN6 := hN5.setHi b q)
              | fail)
            have hN7 := Lib.hid hN6
            clear hN6
            go_roundw
            case rel => exact ⟨q + 1, by go_num, by omega, by omega, Lib.hid (by rw [HLO2.out, HHI2.out]; exact hN7.out)⟩
            case measure => simp [intOf]; omega
          · have CL1 : Hid (∀ X, Calls Try.prog 42 #[.agg #[.int .i64 l1, .int .i64 l2], .agg #[.int .i64 a, .int .i64 q]] X fun e w' => e = .returned (.bool true) ∧ Below X.heap.size X w') := fun X => by have h := frac_less l1 l2 a q X wl1 wl2; rwa [show decide ((l1 : Int) * q < a * l2) = true by rw [← Int.natCast_mul, ← Int.natCast_mul]; simp only [decide_eq_true_eq]; omega] at h
            have CL2 : Hid (∀ X, Calls Try.prog 42 #[.agg #[.int .i64 b, .int .i64 q], .agg #[.int .i64 h1, .int .i64 h2]] X fun e w' => e = .returned (.bool false) ∧ Below X.heap.size X w') := fun X => by have h := frac_less b q h1 h2 X wh1 wh2; rwa [show decide ((b : Int) * h2 < h1 * q) = false by rw [← Int.natCast_mul, ← Int.natCast_mul]; simp only [decide_eq_false_iff_not]; omega] at h
            have HLO2 : Hid (lowN P Q (q + 1 - 2) = (a, q)) := Lib.hid (HL.out.trans (if_pos k1))
            have HHI2 : Hid (highN P Q (q + 1 - 2) = (h1, h2)) := Lib.hid (HH.out.trans (if_neg k2))
            clear wl1 wl2 wh1 wh2 k1 k2
            go_wp2_with (first
              | (go_at_call 42; (with_reducible refine (CL1.out _).mono ?_); rintro e w2 ⟨rfl, b2⟩; have hN2 := hN1.below b2; have hA2 := heap_below hA b2; obtain ⟨ya1, ya2, _, _⟩ := fr_cells hA2; obtain ⟨yl1, yl2, yl3, yl4⟩ := fr_cells hN2.lo; have hN3 := hN2.setLo a q; obtain ⟨W3, hW3⟩ : ∃ W3, (w2.setCell ⟨B, 0, none⟩ (.int .i64 a)).setCell ⟨B, 1, none⟩ (.int .i64 q) = W3 := ⟨_, rfl⟩; rw [hW3] at hN3; obtain ⟨zx1, zx2, _, _⟩ := fr_cells hN3.x; obtain ⟨W4, hW4⟩ : ∃ W4, W3.alloc (.cells #[.int .i64 b, .int .i64 q] 23) = W4 := ⟨_, rfl⟩; have hN4 := hN3.alloc (.cells #[.int .i64 b, .int .i64 q] 23); rw [hW4] at hN4; have hB4 : W4.heap[W3.heap.size]? = some (.cells #[.int .i64 b, .int .i64 q] 23) := (by rw [← hW4]; exact heap_alloc_new _ _); obtain ⟨zb1, zb2, _, _⟩ := fr_cells hB4; obtain ⟨zh1, zh2, _, _⟩ := fr_cells hN4.hi; obtain ⟨zy1, zy2, _, _⟩ := fr_cells hN4.x)
              | (go_at_call 42; (with_reducible refine (CL2.out _).mono ?_); rintro e w5 ⟨rfl, b5⟩; have hN5 := hN4.below b5; have hB5 := heap_below hB4 b5; obtain ⟨vb1, vb2, _, _⟩ := fr_cells hB5; obtain ⟨vh1, vh2, vh3, vh4⟩ := fr_cells hN5.hi; have hN6 := hN5)
              | fail)
            have hN7 := Lib.hid hN6
            clear hN6
            go_roundw
            case rel => exact ⟨q + 1, by go_num, by omega, by omega, Lib.hid (by rw [HLO2.out, HHI2.out]; exact hN7.out)⟩
            case measure => simp [intOf]; omega
        · by_cases k2 : b * h2 < h1 * q
          · have CL1 : Hid (∀ X, Calls Try.prog 42 #[.agg #[.int .i64 l1, .int .i64 l2], .agg #[.int .i64 a, .int .i64 q]] X fun e w' => e = .returned (.bool false) ∧ Below X.heap.size X w') := fun X => by have h := frac_less l1 l2 a q X wl1 wl2; rwa [show decide ((l1 : Int) * q < a * l2) = false by rw [← Int.natCast_mul, ← Int.natCast_mul]; simp only [decide_eq_false_iff_not]; omega] at h
            have CL2 : Hid (∀ X, Calls Try.prog 42 #[.agg #[.int .i64 b, .int .i64 q], .agg #[.int .i64 h1, .int .i64 h2]] X fun e w' => e = .returned (.bool true) ∧ Below X.heap.size X w') := fun X => by have h := frac_less b q h1 h2 X wh1 wh2; rwa [show decide ((b : Int) * h2 < h1 * q) = true by rw [← Int.natCast_mul, ← Int.natCast_mul]; simp only [decide_eq_true_eq]; omega] at h
            have HLO2 : Hid (lowN P Q (q + 1 - 2) = (l1, l2)) := Lib.hid (HL.out.trans (if_neg k1))
            have HHI2 : Hid (highN P Q (q + 1 - 2) = (b, q)) := Lib.hid (HH.out.trans (if_pos k2))
            clear wl1 wl2 wh1 wh2 k1 k2
            go_wp2_with (first
              | (go_at_call 42; (with_reducible refine (CL1.out _).mono ?_); rintro e w2 ⟨rfl, b2⟩; have hN2 := hN1.below b2; have hA2 := heap_below hA b2; obtain ⟨ya1, ya2, _, _⟩ := fr_cells hA2; obtain ⟨yl1, yl2, yl3, yl4⟩ := fr_cells hN2.lo; have hN3 := hN2; obtain ⟨zx1, zx2, _, _⟩ := fr_cells hN3.x; obtain ⟨W4, hW4⟩ : ∃ W4, w2.alloc (.cells #[.int .i64 b, .int .i64 q] 23) = W4 := ⟨_, rfl⟩; have hN4 := hN3.alloc (.cells #[.int .i64 b, .int .i64 q] 23); rw [hW4] at hN4; have hB4 : W4.heap[w2.heap.size]? = some (.cells #[.int .i64 b, .int .i64 q] 23) := (by rw [← hW4]; exact heap_alloc_new _ _); obtain ⟨zb1, zb2, _, _⟩ := fr_cells hB4; obtain ⟨zh1, zh2, _, _⟩ := fr_cells hN4.hi; obtain ⟨zy1, zy2, _, _⟩ := fr_cells hN4.x)
              | (go_at_call 42; (with_reducible refine (CL2.out _).mono ?_); rintro e w5 ⟨rfl, b5⟩; have hN5 := hN4.below b5; have hB5 := heap_below hB4 b5; obtain ⟨vb1, vb2, _, _⟩ := fr_cells hB5; obtain ⟨vh1, vh2, vh3, vh4⟩ := fr_cells hN5.hi; have hN6 := hN5.setHi b q)
              | fail)
            have hN7 := Lib.hid hN6
            clear hN6
            go_roundw
            case rel => exact ⟨q + 1, by go_num, by omega, by omega, Lib.hid (by rw [HLO2.out, HHI2.out]; exact hN7.out)⟩
            case measure => simp [intOf]; omega
          · have CL1 : Hid (∀ X, Calls Try.prog 42 #[.agg #[.int .i64 l1, .int .i64 l2], .agg #[.int .i64 a, .int .i64 q]] X fun e w' => e = .returned (.bool false) ∧ Below X.heap.size X w') := fun X => by have h := frac_less l1 l2 a q X wl1 wl2; rwa [show decide ((l1 : Int) * q < a * l2) = false by rw [← Int.natCast_mul, ← Int.natCast_mul]; simp only [decide_eq_false_iff_not]; omega] at h
            have CL2 : Hid (∀ X, Calls Try.prog 42 #[.agg #[.int .i64 b, .int .i64 q], .agg #[.int .i64 h1, .int .i64 h2]] X fun e w' => e = .returned (.bool false) ∧ Below X.heap.size X w') := fun X => by have h := frac_less b q h1 h2 X wh1 wh2; rwa [show decide ((b : Int) * h2 < h1 * q) = false by rw [← Int.natCast_mul, ← Int.natCast_mul]; simp only [decide_eq_false_iff_not]; omega] at h
            have HLO2 : Hid (lowN P Q (q + 1 - 2) = (l1, l2)) := Lib.hid (HL.out.trans (if_neg k1))
            have HHI2 : Hid (highN P Q (q + 1 - 2) = (h1, h2)) := Lib.hid (HH.out.trans (if_neg k2))
            clear wl1 wl2 wh1 wh2 k1 k2
            go_wp2_with (first
              | (go_at_call 42; (with_reducible refine (CL1.out _).mono ?_); rintro e w2 ⟨rfl, b2⟩; have hN2 := hN1.below b2; have hA2 := heap_below hA b2; obtain ⟨ya1, ya2, _, _⟩ := fr_cells hA2; obtain ⟨yl1, yl2, yl3, yl4⟩ := fr_cells hN2.lo; have hN3 := hN2; obtain ⟨zx1, zx2, _, _⟩ := fr_cells hN3.x; obtain ⟨W4, hW4⟩ : ∃ W4, w2.alloc (.cells #[.int .i64 b, .int .i64 q] 23) = W4 := ⟨_, rfl⟩; have hN4 := hN3.alloc (.cells #[.int .i64 b, .int .i64 q] 23); rw [hW4] at hN4; have hB4 : W4.heap[w2.heap.size]? = some (.cells #[.int .i64 b, .int .i64 q] 23) := (by rw [← hW4]; exact heap_alloc_new _ _); obtain ⟨zb1, zb2, _, _⟩ := fr_cells hB4; obtain ⟨zh1, zh2, _, _⟩ := fr_cells hN4.hi; obtain ⟨zy1, zy2, _, _⟩ := fr_cells hN4.x)
              | (go_at_call 42; (with_reducible refine (CL2.out _).mono ?_); rintro e w5 ⟨rfl, b5⟩; have hN5 := hN4.below b5; have hB5 := heap_below hB4 b5; obtain ⟨vb1, vb2, _, _⟩ := fr_cells hB5; obtain ⟨vh1, vh2, vh3, vh4⟩ := fr_cells hN5.hi; have hN6 := hN5)
              | fail)
            have hN7 := Lib.hid hN6
            clear hN6
            go_roundw
            case rel => exact ⟨q + 1, by go_num, by omega, by omega, Lib.hid (by rw [HLO2.out, HHI2.out]; exact hN7.out)⟩
            case measure => simp [intOf]; omega
      · obtain rfl : q = most + 1 := by omega
        have e1 : decide ((most : Int) + 1 ≤ most) = false := by simp; omega
        rw [show most + 1 - 2 = most - 1 by omega] at hN bl1 bl2 bl3 bh1 bh2 bh3
        skip
        obtain ⟨⟨l1, l2⟩, hl⟩ : ∃ p, lowN P Q (most - 1) = p := ⟨_, rfl⟩
        obtain ⟨⟨h1, h2⟩, hh⟩ : ∃ p, highN P Q (most - 1) = p := ⟨_, rfl⟩
        rw [hl] at hN bl1 bl2 bl3
        rw [hh] at hN bh1 bh2 bh3
        have HLH := Lib.hid (And.intro hl hh)
        simp only at bl1 bl2 bl3 bh1 bh2 bh3
        clear hl hh
        have CA := Lib.hid (fun X => frac_lowest l1 l2 X (by omega) bl2 (by omega))
        have CB := Lib.hid (fun X => frac_lowest h1 h2 X (by omega) bh2 (by omega))
        have hN0 : NSt H (B) (B + 1) P Q l1 l2 h1 h2 w wo := hN.out
        obtain ⟨xl1, xl2, _, _⟩ := fr_cells hN0.lo
        obtain ⟨xh1, xh2, _, _⟩ := fr_cells hN0.hi
        obtain ⟨p1, hp1⟩ : ∃ p, l1 / Nat.gcd l1 l2 = p := ⟨_, rfl⟩
        obtain ⟨p2, hp2⟩ : ∃ p, l2 / Nat.gcd l1 l2 = p := ⟨_, rfl⟩
        obtain ⟨p3, hp3⟩ : ∃ p, h1 / Nat.gcd h1 h2 = p := ⟨_, rfl⟩
        obtain ⟨p4, hp4⟩ : ∃ p, h2 / Nat.gcd h1 h2 = p := ⟨_, rfl⟩
        rw [hp1, hp2] at CA
        rw [hp3, hp4] at CB
        have HPP := Lib.hid (And.intro hp1 (And.intro hp2 (And.intro hp3 hp4)))
        clear hp1 hp2 hp3 hp4
        have ne0 : ¬ H = B := by omega
        have ne1 : ¬ H + 1 = B := by omega
        have ne2 : ¬ H + 2 = B := by omega
        go_wp2_with fail
        go_region_held3 (fun w' => w'.cell? ⟨B, 0, none⟩ = some (.int .i64 l1) ∧ w'.cell? ⟨B, 1, none⟩ = some (.int .i64 l2) ∧ w'.cell? ⟨B + 1, 0, none⟩ = some (.int .i64 h1) ∧ w'.cell? ⟨B + 1, 1, none⟩ = some (.int .i64 h2)) (first | go_keep | (exact four_below (by assumption) (by assumption)))
          (first
            | (go_at_call 43; (with_reducible refine (CA.out _).mono ?_); rintro e w5 ⟨rfl, b5⟩; have rw5 := heap_below (k := H + 1) (o := .cells #[.int .i64 0, .int .i64 0] 23) (by first | assumption | exact hN0.r1) b5; have sw5 := heap_below (k := H + 2) (o := .cells #[.int .i64 0, .int .i64 0] 23) (by first | assumption | exact hN0.r2) b5; obtain ⟨caw5, cbw5, ccw5, cdw5⟩ := fr_cells rw5; obtain ⟨daw5, dbw5, dcw5, ddw5⟩ := fr_cells sw5)
            | (go_at_call 43; (with_reducible refine (CB.out _).mono ?_); rintro e w6 ⟨rfl, b6⟩; have rw6 := heap_below (k := H + 1) (o := .cells #[.int .i64 0, .int .i64 0] 23) (by first | assumption | exact hN0.r1) b6; have sw6 := heap_below (k := H + 2) (o := .cells #[.int .i64 0, .int .i64 0] 23) (by first | assumption | exact hN0.r2) b6; obtain ⟨caw6, cbw6, ccw6, cdw6⟩ := fr_cells rw6; obtain ⟨daw6, dbw6, dcw6, ddw6⟩ := fr_cells sw6)
            | fail)
        have hw0 := heap_lt hN0.x
        have hw5 := heap_lt rw5
        have bel6 : Below w.heap.size w w6 := by rw [hH]; exact ((below_drew1 hN0.bel).trans (b5.mono (Nat.le_of_lt hw0))).trans (b6.mono (by omega))
        obtain ⟨Y, hY, y1, y2, y3, y4, yb⟩ := res4 (R1 := H + 1) (R2 := H + 1 + 1) rw6 sw6 (by omega) (by omega) (by omega) bel6 p1 p2 p3 p4
        rw [hY]
        clear hY hW0 hN hN0 bel6 b5 b6
        go_wp2_with fail
        refine bodyPost_ret (by simp [results, Try.results8, go_sem, y1, y2, y3, y4]; try rfl) rfl ?_
        refine ⟨?_, yb⟩
        obtain ⟨q1, q2⟩ := HLH.out
        obtain ⟨z1, z2, z3, z4⟩ := HPP.out
        rw [q1, q2]
        simp only
        rw [z1, z2, z3, z4]
  · go_wp2_with fail
    go_loopw [9] (fun vq wr => ∃ q : Nat, vq = .int .i64 q ∧ 2 ≤ q ∧ q ≤ most + 1 ∧ Hid (NSt H (B + 1) (B) P Q (lowN P Q (q - 2)).1 (lowN P Q (q - 2)).2 (highN P Q (q - 2)).1 (highN P Q (q - 2)).2 w wr)) (fun vq _ => most + 1 - (intOf vq).toNat)
    case atStart =>
      refine ⟨2, rfl, by omega, by omega, Lib.hid ?_⟩
      show NSt H (B + 1) (B) P Q (lowN P Q 0).1 (lowN P Q 0).2 (highN P Q 0).1 (highN P Q 0).2 w _
      rw [← HL0.out, ← HH0.out]
      exact ⟨heap_drew (heap_alloc_old _ _ (heap_alloc_old _ _ x1)), heap_drew (heap_alloc_old _ _ (heap_alloc_old _ _ r1)), heap_drew (heap_alloc_old _ _ (heap_alloc_old _ _ s1)), heap_drew (heap_new' _ _ _ (by simp [hB])), heap_drew (heap_alloc_old _ _ (heap_new' _ _ _ hB)), below_drew1 ((bW1.alloc (by omega) _).alloc (by simp; omega) _), by omega, by omega, by omega⟩
    case round =>
      clear x1 r1 s1 xc0 xc1 b1 hB bW1 lb1 lb2 pq1 pq2 u1 u2 wa wb HL0 HH0
      try clear bW0
      obtain ⟨q, rfl, hq2, hqm, hN⟩ := hrel
      skip
      obtain ⟨wo, rfl⟩ : ∃ wo, wo = wr := ⟨_, rfl⟩
      obtain ⟨bl1, bl2, bl3⟩ := lowN_bd (P := P) (Q := Q) hP hQ (q - 2) (by omega)
      obtain ⟨bh1, bh2, bh3⟩ := highN_bd (P := P) (Q := Q) hP hQ (q - 2) (by omega)
      by_cases hlt : q ≤ most
      · have e1 : decide ((q : Int) ≤ most) = true := by simp; omega
        have HL := Lib.hid (lowN_q P Q hq2)
        have HH := Lib.hid (highN_q P Q hq2)
        obtain ⟨⟨l1, l2⟩, hl⟩ : ∃ p, lowN P Q (q - 2) = p := ⟨_, rfl⟩
        obtain ⟨⟨h1, h2⟩, hh⟩ : ∃ p, highN P Q (q - 2) = p := ⟨_, rfl⟩
        rw [hl] at hN HL bl1 bl2 bl3
        rw [hh] at hN HH bh1 bh2 bh3
        simp only at bl1 bl2 bl3 bh1 bh2 bh3
        clear hl hh
        obtain ⟨R, hR⟩ : ∃ R, P * q = R := ⟨_, rfl⟩
        have hR1 : R ≤ 1000000000000 := by rw [← hR]; exact nmul_bd hP (by omega)
        have pr : (P : Int) * (q : Int) = (R : Int) := by rw [← Int.natCast_mul, hR]
        have pw : IntKind.i64.wrap (R : Int) = (R : Int) := IntWalk.i64_in _ (by omega)
        obtain ⟨a, ha⟩ : ∃ a, R / Q = a := ⟨_, rfl⟩
        obtain ⟨b, hb⟩ : ∃ b, (R + Q - 1) / Q = b := ⟨_, rfl⟩
        rw [hR, ha] at HL
        rw [hR, hb] at HH
        have ab1 : a ≤ 2000000000000 := by rw [← ha]; exact Nat.le_trans (Nat.div_le_self _ _) (by omega)
        have ab2 : b ≤ 2000000000000 := by rw [← hb]; exact Nat.le_trans (Nat.div_le_self _ _) (by omega)
        have qa : (R : Int).tdiv (Q : Int) = (a : Int) := by rw [Int.tdiv_eq_ediv_of_nonneg (by omega), ← ha]; rfl
        have qb : ((R : Int) + (Q : Int) - 1).tdiv (Q : Int) = (b : Int) := by rw [show (R : Int) + Q - 1 = ((R + Q - 1 : Nat) : Int) by omega, Int.tdiv_eq_ediv_of_nonneg (by omega), ← hb]; rfl
        have ua : IntKind.i64.wrap (a : Int) = (a : Int) := IntWalk.i64_in _ (by omega)
        have ub : IntKind.i64.wrap (b : Int) = (b : Int) := IntWalk.i64_in _ (by omega)
        have wa : IntKind.i64.wrap ((R : Int) + (Q : Int)) = (R : Int) + (Q : Int) := IntWalk.i64_in _ (by omega)
        have wb : IntKind.i64.wrap ((R : Int) + (Q : Int) - 1) = (R : Int) + (Q : Int) - 1 := IntWalk.i64_in _ (by omega)
        clear ha hb hR
        have wl1 := nat_wrap (a := l1) (b := q) (by have := nprod_bd bl1 (show q ≤ 1000000 by omega); omega)
        have wl2 := nat_wrap (a := a) (b := l2) (by have := nprod_bd ab1 (show l2 ≤ 1000000 by omega); omega)
        have wh1 := nat_wrap (a := b) (b := h2) (by have := nprod_bd ab2 (show h2 ≤ 1000000 by omega); omega)
        have wh2 := nat_wrap (a := h1) (b := q) (by have := nprod_bd bh1 (show q ≤ 1000000 by omega); omega)
        have hN0 : NSt H (B + 1) (B) P Q l1 l2 h1 h2 w wo := hN.out
        have hN1 := hN0.alloc (.cells #[.int .i64 a, .int .i64 q] 23)
        obtain ⟨W1, hW1⟩ : ∃ W1, wo.alloc (.cells #[.int .i64 a, .int .i64 q] 23) = W1 := ⟨_, rfl⟩
        have hA : W1.heap[wo.heap.size]? = some (.cells #[.int .i64 a, .int .i64 q] 23) := by rw [← hW1]; exact heap_alloc_new _ _
        rw [hW1] at hN1
        obtain ⟨xa1, xa2, _, _⟩ := fr_cells hA
        obtain ⟨xl1, xl2, _, _⟩ := fr_cells hN1.lo
        obtain ⟨xx1, xx2, _, _⟩ := fr_cells hN0.x
        by_cases k1 : l1 * q < a * l2
        · by_cases k2 : b * h2 < h1 * q
          · have CL1 : Hid (∀ X, Calls Try.prog 42 #[.agg #[.int .i64 l1, .int .i64 l2], .agg #[.int .i64 a, .int .i64 q]] X fun e w' => e = .returned (.bool true) ∧ Below X.heap.size X w') := fun X => by have h := frac_less l1 l2 a q X wl1 wl2; rwa [show decide ((l1 : Int) * q < a * l2) = true by rw [← Int.natCast_mul, ← Int.natCast_mul]; simp only [decide_eq_true_eq]; omega] at h
            have CL2 : Hid (∀ X, Calls Try.prog 42 #[.agg #[.int .i64 b, .int .i64 q], .agg #[.int .i64 h1, .int .i64 h2]] X fun e w' => e = .returned (.bool true) ∧ Below X.heap.size X w') := fun X => by have h := frac_less b q h1 h2 X wh1 wh2; rwa [show decide ((b : Int) * h2 < h1 * q) = true by rw [← Int.natCast_mul, ← Int.natCast_mul]; simp only [decide_eq_true_eq]; omega] at h
            have HLO2 : Hid (lowN P Q (q + 1 - 2) = (a, q)) := Lib.hid (HL.out.trans (if_pos k1))
            have HHI2 : Hid (highN P Q (q + 1 - 2) = (b, q)) := Lib.hid (HH.out.trans (if_pos k2))
            clear wl1 wl2 wh1 wh2 k1 k2
            go_wp2_with (first
              | (go_at_call 42; (with_reducible refine (CL1.out _).mono ?_); rintro e w2 ⟨rfl, b2⟩; have hN2 := hN1.below b2; have hA2 := heap_below hA b2; obtain ⟨ya1, ya2, _, _⟩ := fr_cells hA2; obtain ⟨yl1, yl2, yl3, yl4⟩ := fr_cells hN2.lo; have hN3 := hN2.setLo a q; obtain ⟨W3, hW3⟩ : ∃ W3, (w2.setCell ⟨B + 1, 0, none⟩ (.int .i64 a)).setCell ⟨B + 1, 1, none⟩ (.int .i64 q) = W3 := ⟨_, rfl⟩; rw [hW3] at hN3; obtain ⟨zx1, zx2, _, _⟩ := fr_cells hN3.x; obtain ⟨W4, hW4⟩ : ∃ W4, W3.alloc (.cells #[.int .i64 b, .int .i64 q] 23) = W4 := ⟨_, rfl⟩; have hN4 := hN3.alloc (.cells #[.int .i64 b, .int .i64 q] 23); rw [hW4] at hN4; have hB4 : W4.heap[W3.heap.size]? = some (.cells #[.int .i64 b, .int .i64 q] 23) := (by rw [← hW4]; exact heap_alloc_new _ _); obtain ⟨zb1, zb2, _, _⟩ := fr_cells hB4; obtain ⟨zh1, zh2, _, _⟩ := fr_cells hN4.hi; obtain ⟨zy1, zy2, _, _⟩ := fr_cells hN4.x)
              | (go_at_call 42; (with_reducible refine (CL2.out _).mono ?_); rintro e w5 ⟨rfl, b5⟩; have hN5 := hN4.below b5; have hB5 := heap_below hB4 b5; obtain ⟨vb1, vb2, _, _⟩ := fr_cells hB5; obtain ⟨vh1, vh2, vh3, vh4⟩ := fr_cells hN5.hi; have hN6 := hN5.setHi b q)
              | fail)
            have hN7 := Lib.hid hN6
            clear hN6
            go_roundw
            case rel => exact ⟨q + 1, by go_num, by omega, by omega, Lib.hid (by rw [HLO2.out, HHI2.out]; exact hN7.out)⟩
            case measure => simp [intOf]; omega
          · have CL1 : Hid (∀ X, Calls Try.prog 42 #[.agg #[.int .i64 l1, .int .i64 l2], .agg #[.int .i64 a, .int .i64 q]] X fun e w' => e = .returned (.bool true) ∧ Below X.heap.size X w') := fun X => by have h := frac_less l1 l2 a q X wl1 wl2; rwa [show decide ((l1 : Int) * q < a * l2) = true by rw [← Int.natCast_mul, ← Int.natCast_mul]; simp only [decide_eq_true_eq]; omega] at h
            have CL2 : Hid (∀ X, Calls Try.prog 42 #[.agg #[.int .i64 b, .int .i64 q], .agg #[.int .i64 h1, .int .i64 h2]] X fun e w' => e = .returned (.bool false) ∧ Below X.heap.size X w') := fun X => by have h := frac_less b q h1 h2 X wh1 wh2; rwa [show decide ((b : Int) * h2 < h1 * q) = false by rw [← Int.natCast_mul, ← Int.natCast_mul]; simp only [decide_eq_false_iff_not]; omega] at h
            have HLO2 : Hid (lowN P Q (q + 1 - 2) = (a, q)) := Lib.hid (HL.out.trans (if_pos k1))
            have HHI2 : Hid (highN P Q (q + 1 - 2) = (h1, h2)) := Lib.hid (HH.out.trans (if_neg k2))
            clear wl1 wl2 wh1 wh2 k1 k2
            go_wp2_with (first
              | (go_at_call 42; (with_reducible refine (CL1.out _).mono ?_); rintro e w2 ⟨rfl, b2⟩; have hN2 := hN1.below b2; have hA2 := heap_below hA b2; obtain ⟨ya1, ya2, _, _⟩ := fr_cells hA2; obtain ⟨yl1, yl2, yl3, yl4⟩ := fr_cells hN2.lo; have hN3 := hN2.setLo a q; obtain ⟨W3, hW3⟩ : ∃ W3, (w2.setCell ⟨B + 1, 0, none⟩ (.int .i64 a)).setCell ⟨B + 1, 1, none⟩ (.int .i64 q) = W3 := ⟨_, rfl⟩; rw [hW3] at hN3; obtain ⟨zx1, zx2, _, _⟩ := fr_cells hN3.x; obtain ⟨W4, hW4⟩ : ∃ W4, W3.alloc (.cells #[.int .i64 b, .int .i64 q] 23) = W4 := ⟨_, rfl⟩; have hN4 := hN3.alloc (.cells #[.int .i64 b, .int .i64 q] 23); rw [hW4] at hN4; have hB4 : W4.heap[W3.heap.size]? = some (.cells #[.int .i64 b, .int .i64 q] 23) := (by rw [← hW4]; exact heap_alloc_new _ _); obtain ⟨zb1, zb2, _, _⟩ := fr_cells hB4; obtain ⟨zh1, zh2, _, _⟩ := fr_cells hN4.hi; obtain ⟨zy1, zy2, _, _⟩ := fr_cells hN4.x)
              | (go_at_call 42; (with_reducible refine (CL2.out _).mono ?_); rintro e w5 ⟨rfl, b5⟩; have hN5 := hN4.below b5; have hB5 := heap_below hB4 b5; obtain ⟨vb1, vb2, _, _⟩ := fr_cells hB5; obtain ⟨vh1, vh2, vh3, vh4⟩ := fr_cells hN5.hi; have hN6 := hN5)
              | fail)
            have hN7 := Lib.hid hN6
            clear hN6
            go_roundw
            case rel => exact ⟨q + 1, by go_num, by omega, by omega, Lib.hid (by rw [HLO2.out, HHI2.out]; exact hN7.out)⟩
            case measure => simp [intOf]; omega
        · by_cases k2 : b * h2 < h1 * q
          · have CL1 : Hid (∀ X, Calls Try.prog 42 #[.agg #[.int .i64 l1, .int .i64 l2], .agg #[.int .i64 a, .int .i64 q]] X fun e w' => e = .returned (.bool false) ∧ Below X.heap.size X w') := fun X => by have h := frac_less l1 l2 a q X wl1 wl2; rwa [show decide ((l1 : Int) * q < a * l2) = false by rw [← Int.natCast_mul, ← Int.natCast_mul]; simp only [decide_eq_false_iff_not]; omega] at h
            have CL2 : Hid (∀ X, Calls Try.prog 42 #[.agg #[.int .i64 b, .int .i64 q], .agg #[.int .i64 h1, .int .i64 h2]] X fun e w' => e = .returned (.bool true) ∧ Below X.heap.size X w') := fun X => by have h := frac_less b q h1 h2 X wh1 wh2; rwa [show decide ((b : Int) * h2 < h1 * q) = true by rw [← Int.natCast_mul, ← Int.natCast_mul]; simp only [decide_eq_true_eq]; omega] at h
            have HLO2 : Hid (lowN P Q (q + 1 - 2) = (l1, l2)) := Lib.hid (HL.out.trans (if_neg k1))
            have HHI2 : Hid (highN P Q (q + 1 - 2) = (b, q)) := Lib.hid (HH.out.trans (if_pos k2))
            clear wl1 wl2 wh1 wh2 k1 k2
            go_wp2_with (first
              | (go_at_call 42; (with_reducible refine (CL1.out _).mono ?_); rintro e w2 ⟨rfl, b2⟩; have hN2 := hN1.below b2; have hA2 := heap_below hA b2; obtain ⟨ya1, ya2, _, _⟩ := fr_cells hA2; obtain ⟨yl1, yl2, yl3, yl4⟩ := fr_cells hN2.lo; have hN3 := hN2; obtain ⟨zx1, zx2, _, _⟩ := fr_cells hN3.x; obtain ⟨W4, hW4⟩ : ∃ W4, w2.alloc (.cells #[.int .i64 b, .int .i64 q] 23) = W4 := ⟨_, rfl⟩; have hN4 := hN3.alloc (.cells #[.int .i64 b, .int .i64 q] 23); rw [hW4] at hN4; have hB4 : W4.heap[w2.heap.size]? = some (.cells #[.int .i64 b, .int .i64 q] 23) := (by rw [← hW4]; exact heap_alloc_new _ _); obtain ⟨zb1, zb2, _, _⟩ := fr_cells hB4; obtain ⟨zh1, zh2, _, _⟩ := fr_cells hN4.hi; obtain ⟨zy1, zy2, _, _⟩ := fr_cells hN4.x)
              | (go_at_call 42; (with_reducible refine (CL2.out _).mono ?_); rintro e w5 ⟨rfl, b5⟩; have hN5 := hN4.below b5; have hB5 := heap_below hB4 b5; obtain ⟨vb1, vb2, _, _⟩ := fr_cells hB5; obtain ⟨vh1, vh2, vh3, vh4⟩ := fr_cells hN5.hi; have hN6 := hN5.setHi b q)
              | fail)
            have hN7 := Lib.hid hN6
            clear hN6
            go_roundw
            case rel => exact ⟨q + 1, by go_num, by omega, by omega, Lib.hid (by rw [HLO2.out, HHI2.out]; exact hN7.out)⟩
            case measure => simp [intOf]; omega
          · have CL1 : Hid (∀ X, Calls Try.prog 42 #[.agg #[.int .i64 l1, .int .i64 l2], .agg #[.int .i64 a, .int .i64 q]] X fun e w' => e = .returned (.bool false) ∧ Below X.heap.size X w') := fun X => by have h := frac_less l1 l2 a q X wl1 wl2; rwa [show decide ((l1 : Int) * q < a * l2) = false by rw [← Int.natCast_mul, ← Int.natCast_mul]; simp only [decide_eq_false_iff_not]; omega] at h
            have CL2 : Hid (∀ X, Calls Try.prog 42 #[.agg #[.int .i64 b, .int .i64 q], .agg #[.int .i64 h1, .int .i64 h2]] X fun e w' => e = .returned (.bool false) ∧ Below X.heap.size X w') := fun X => by have h := frac_less b q h1 h2 X wh1 wh2; rwa [show decide ((b : Int) * h2 < h1 * q) = false by rw [← Int.natCast_mul, ← Int.natCast_mul]; simp only [decide_eq_false_iff_not]; omega] at h
            have HLO2 : Hid (lowN P Q (q + 1 - 2) = (l1, l2)) := Lib.hid (HL.out.trans (if_neg k1))
            have HHI2 : Hid (highN P Q (q + 1 - 2) = (h1, h2)) := Lib.hid (HH.out.trans (if_neg k2))
            clear wl1 wl2 wh1 wh2 k1 k2
            go_wp2_with (first
              | (go_at_call 42; (with_reducible refine (CL1.out _).mono ?_); rintro e w2 ⟨rfl, b2⟩; have hN2 := hN1.below b2; have hA2 := heap_below hA b2; obtain ⟨ya1, ya2, _, _⟩ := fr_cells hA2; obtain ⟨yl1, yl2, yl3, yl4⟩ := fr_cells hN2.lo; have hN3 := hN2; obtain ⟨zx1, zx2, _, _⟩ := fr_cells hN3.x; obtain ⟨W4, hW4⟩ : ∃ W4, w2.alloc (.cells #[.int .i64 b, .int .i64 q] 23) = W4 := ⟨_, rfl⟩; have hN4 := hN3.alloc (.cells #[.int .i64 b, .int .i64 q] 23); rw [hW4] at hN4; have hB4 : W4.heap[w2.heap.size]? = some (.cells #[.int .i64 b, .int .i64 q] 23) := (by rw [← hW4]; exact heap_alloc_new _ _); obtain ⟨zb1, zb2, _, _⟩ := fr_cells hB4; obtain ⟨zh1, zh2, _, _⟩ := fr_cells hN4.hi; obtain ⟨zy1, zy2, _, _⟩ := fr_cells hN4.x)
              | (go_at_call 42; (with_reducible refine (CL2.out _).mono ?_); rintro e w5 ⟨rfl, b5⟩; have hN5 := hN4.below b5; have hB5 := heap_below hB4 b5; obtain ⟨vb1, vb2, _, _⟩ := fr_cells hB5; obtain ⟨vh1, vh2, vh3, vh4⟩ := fr_cells hN5.hi; have hN6 := hN5)
              | fail)
            have hN7 := Lib.hid hN6
            clear hN6
            go_roundw
            case rel => exact ⟨q + 1, by go_num, by omega, by omega, Lib.hid (by rw [HLO2.out, HHI2.out]; exact hN7.out)⟩
            case measure => simp [intOf]; omega
      · obtain rfl : q = most + 1 := by omega
        have e1 : decide ((most : Int) + 1 ≤ most) = false := by simp; omega
        rw [show most + 1 - 2 = most - 1 by omega] at hN bl1 bl2 bl3 bh1 bh2 bh3
        skip
        obtain ⟨⟨l1, l2⟩, hl⟩ : ∃ p, lowN P Q (most - 1) = p := ⟨_, rfl⟩
        obtain ⟨⟨h1, h2⟩, hh⟩ : ∃ p, highN P Q (most - 1) = p := ⟨_, rfl⟩
        rw [hl] at hN bl1 bl2 bl3
        rw [hh] at hN bh1 bh2 bh3
        have HLH := Lib.hid (And.intro hl hh)
        simp only at bl1 bl2 bl3 bh1 bh2 bh3
        clear hl hh
        have CA := Lib.hid (fun X => frac_lowest l1 l2 X (by omega) bl2 (by omega))
        have CB := Lib.hid (fun X => frac_lowest h1 h2 X (by omega) bh2 (by omega))
        have hN0 : NSt H (B + 1) (B) P Q l1 l2 h1 h2 w wo := hN.out
        obtain ⟨xl1, xl2, _, _⟩ := fr_cells hN0.lo
        obtain ⟨xh1, xh2, _, _⟩ := fr_cells hN0.hi
        obtain ⟨p1, hp1⟩ : ∃ p, l1 / Nat.gcd l1 l2 = p := ⟨_, rfl⟩
        obtain ⟨p2, hp2⟩ : ∃ p, l2 / Nat.gcd l1 l2 = p := ⟨_, rfl⟩
        obtain ⟨p3, hp3⟩ : ∃ p, h1 / Nat.gcd h1 h2 = p := ⟨_, rfl⟩
        obtain ⟨p4, hp4⟩ : ∃ p, h2 / Nat.gcd h1 h2 = p := ⟨_, rfl⟩
        rw [hp1, hp2] at CA
        rw [hp3, hp4] at CB
        have HPP := Lib.hid (And.intro hp1 (And.intro hp2 (And.intro hp3 hp4)))
        clear hp1 hp2 hp3 hp4
        have ne0 : ¬ H = B := by omega
        have ne1 : ¬ H + 1 = B := by omega
        have ne2 : ¬ H + 2 = B := by omega
        go_wp2_with fail
        go_region_held3 (fun w' => w'.cell? ⟨B + 1, 0, none⟩ = some (.int .i64 l1) ∧ w'.cell? ⟨B + 1, 1, none⟩ = some (.int .i64 l2) ∧ w'.cell? ⟨B, 0, none⟩ = some (.int .i64 h1) ∧ w'.cell? ⟨B, 1, none⟩ = some (.int .i64 h2)) (first | go_keep | (exact four_below (by assumption) (by assumption)))
          (first
            | (go_at_call 43; (with_reducible refine (CA.out _).mono ?_); rintro e w5 ⟨rfl, b5⟩; have rw5 := heap_below (k := H + 1) (o := .cells #[.int .i64 0, .int .i64 0] 23) (by first | assumption | exact hN0.r1) b5; have sw5 := heap_below (k := H + 2) (o := .cells #[.int .i64 0, .int .i64 0] 23) (by first | assumption | exact hN0.r2) b5; obtain ⟨caw5, cbw5, ccw5, cdw5⟩ := fr_cells rw5; obtain ⟨daw5, dbw5, dcw5, ddw5⟩ := fr_cells sw5)
            | (go_at_call 43; (with_reducible refine (CB.out _).mono ?_); rintro e w6 ⟨rfl, b6⟩; have rw6 := heap_below (k := H + 1) (o := .cells #[.int .i64 0, .int .i64 0] 23) (by first | assumption | exact hN0.r1) b6; have sw6 := heap_below (k := H + 2) (o := .cells #[.int .i64 0, .int .i64 0] 23) (by first | assumption | exact hN0.r2) b6; obtain ⟨caw6, cbw6, ccw6, cdw6⟩ := fr_cells rw6; obtain ⟨daw6, dbw6, dcw6, ddw6⟩ := fr_cells sw6)
            | fail)
        have hw0 := heap_lt hN0.x
        have hw5 := heap_lt rw5
        have bel6 : Below w.heap.size w w6 := by rw [hH]; exact ((below_drew1 hN0.bel).trans (b5.mono (Nat.le_of_lt hw0))).trans (b6.mono (by omega))
        obtain ⟨Y, hY, y1, y2, y3, y4, yb⟩ := res4 (R1 := H + 1) (R2 := H + 1 + 1) rw6 sw6 (by omega) (by omega) (by omega) bel6 p1 p2 p3 p4
        rw [hY]
        clear hY hW0 hN hN0 bel6 b5 b6
        go_wp2_with fail
        refine bodyPost_ret (by simp [results, Try.results8, go_sem, y1, y2, y3, y4]; try rfl) rfl ?_
        refine ⟨?_, yb⟩
        obtain ⟨q1, q2⟩ := HLH.out
        obtain ⟨z1, z2, z3, z4⟩ := HPP.out
        rw [q1, q2]
        simp only
        rw [z1, z2, z3, z4]
end Go.Proofs.Ythnbhhfbmkklmaa
