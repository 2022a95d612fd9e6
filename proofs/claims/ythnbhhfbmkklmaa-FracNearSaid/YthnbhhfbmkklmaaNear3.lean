/- wholeref.NearOf. (Printed by wip/tools/gen_near2.py.) -/
import Derived.Test.YthnbhhfbmkklmaaNear2
namespace Go.Proofs.Ythnbhhfbmkklmaa
open Go.RowKit

def NearOfPost (P Q most : Nat) (w : World) (e : Ending) (w' : World) : Prop :=
  e = .returned (.tuple #[.agg #[.int .i64 ((lowN P Q (most - 1)).1 / Nat.gcd (lowN P Q (most - 1)).1 (lowN P Q (most - 1)).2 : Nat), .int .i64 ((lowN P Q (most - 1)).2 / Nat.gcd (lowN P Q (most - 1)).1 (lowN P Q (most - 1)).2 : Nat)], .agg #[.int .i64 ((highN P Q (most - 1)).1 / Nat.gcd (highN P Q (most - 1)).1 (highN P Q (most - 1)).2 : Nat), .int .i64 ((highN P Q (most - 1)).2 / Nat.gcd (highN P Q (most - 1)).1 (highN P Q (most - 1)).2 : Nat)]]) ∧ Below w.heap.size w w'
set_option maxRecDepth 100000 in
set_option maxHeartbeats 16000000 in
theorem ref_NearOf (P Q most : Nat) (w : World) (hP : P ≤ 1000000) (hQ1 : 1 ≤ Q) (hQ : Q ≤ 1000000) (hm1 : 1 ≤ most) (hm : most ≤ 1000000) :
    Calls Try.prog 12 #[.agg #[.int .i64 P, .int .i64 Q], .int .i64 most] w (NearOfPost P Q most w) := by
  have qz : ¬ (Q = 0) := by omega
  obtain ⟨H, hH⟩ : ∃ H, w.heap.size = H := ⟨_, rfl⟩
  obtain ⟨w1, hW0⟩ : ∃ W0, ((w.alloc (.cells #[.int .i64 P, .int .i64 Q] 23)).alloc (.cells #[.int .i64 0, .int .i64 0] 23)).alloc (.cells #[.int .i64 0, .int .i64 0] 23) = W0 := ⟨_, rfl⟩
  have x1 : w1.heap[H]? = some (.cells #[.int .i64 P, .int .i64 Q] 23) := by rw [← hW0, ← hH]; exact heap_alloc_old _ _ (heap_alloc_old _ _ (heap_alloc_new w _))
  have r1 : w1.heap[H + 1]? = some (.cells #[.int .i64 0, .int .i64 0] 23) := by rw [← hW0, ← hH]; exact heap_alloc_old _ _ (heap_new' _ _ _ (by simp))
  have s1 : w1.heap[H + 2]? = some (.cells #[.int .i64 0, .int .i64 0] 23) := by rw [← hW0, ← hH]; exact heap_new' _ _ _ (by simp)
  have bW1 : Below H w w1 := by rw [← hW0, ← hH]; exact (below_two _ _).alloc (by simp; omega) _
  have szW : w1.heap.size = H + 3 := by rw [← hW0]; simp [hH]
  obtain ⟨xc0, xc1, _, _⟩ := fr_cells x1
  have pq1 : (P : Int).tdiv (Q : Int) = ((P / Q : Nat) : Int) := by rw [Int.tdiv_eq_ediv_of_nonneg (by omega)]; rfl
  have pq2 : ((P : Int) + (Q : Int) - 1).tdiv (Q : Int) = (((P + Q - 1) / Q : Nat) : Int) := by rw [show (P : Int) + Q - 1 = ((P + Q - 1 : Nat) : Int) by omega, Int.tdiv_eq_ediv_of_nonneg (by omega)]; rfl
  have lb1 := Nat.div_le_self P Q
  have lb2 := Nat.div_le_self (P + Q - 1) Q
  obtain ⟨l0, hl0⟩ : ∃ l0, P / Q = l0 := ⟨_, rfl⟩
  obtain ⟨h0, hh0⟩ : ∃ h0, (P + Q - 1) / Q = h0 := ⟨_, rfl⟩
  rw [hl0] at pq1 lb1
  rw [hh0] at pq2 lb2
  have u1 : IntKind.i64.wrap (l0 : Int) = (l0 : Int) := IntWalk.i64_in _ (by omega)
  have u2 : IntKind.i64.wrap (h0 : Int) = (h0 : Int) := IntWalk.i64_in _ (by omega)
  have wa : IntKind.i64.wrap ((P : Int) + (Q : Int)) = (P : Int) + (Q : Int) := IntWalk.i64_in _ (by omega)
  have wb : IntKind.i64.wrap ((P : Int) + (Q : Int) - 1) = (P : Int) + (Q : Int) - 1 := IntWalk.i64_in _ (by omega)
  have HL0 : Hid ((l0, 1) = lowN P Q 0) := Lib.hid (by rw [← hl0]; rfl)
  have HH0 : Hid ((h0, 1) = highN P Q 0) := Lib.hid (by rw [← hh0]; rfl)
  clear hl0 hh0
  have hx9 := heap_lt x1
  have hx8 := heap_lt s1
  obtain ⟨B, hB⟩ : ∃ B, w1.heap.size = B := ⟨_, rfl⟩
  rw [hB] at hx9 hx8 szW
  have SZ := Lib.hid szW
  clear szW
  go_enter Try.func12, Try.ntmps12
  go_wp2_with fail

  go_region_held (fun w' => w'.cell? ⟨H, 0, none⟩ = some (.int .i64 P) ∧ w'.cell? ⟨H, 1, none⟩ = some (.int .i64 Q)) (go_keep) (fail)
  · go_wp2_with fail
    go_loopw [8] (fun vq wr => ∃ q : Nat, vq = .int .i64 q ∧ 2 ≤ q ∧ q ≤ most + 1 ∧ Hid (NSt H (B) (B + 1) P Q (lowN P Q (q - 2)).1 (lowN P Q (q - 2)).2 (highN P Q (q - 2)).1 (highN P Q (q - 2)).2 w wr)) (fun vq _ => most + 1 - (intOf vq).toNat)
    case atStart =>
      refine ⟨2, rfl, by omega, by omega, Lib.hid ?_⟩
      show NSt H (B) (B + 1) P Q (lowN P Q 0).1 (lowN P Q 0).2 (highN P Q 0).1 (highN P Q 0).2 w _
      rw [← HL0.out, ← HH0.out]
      exact ⟨heap_drew (heap_alloc_old _ _ (heap_alloc_old _ _ x1)), heap_drew (heap_alloc_old _ _ (heap_alloc_old _ _ r1)), heap_drew (heap_alloc_old _ _ (heap_alloc_old _ _ s1)), heap_drew (heap_alloc_old _ _ (heap_new' _ _ _ hB)), heap_drew (heap_new' _ _ _ (by simp [hB])), below_drew1 ((bW1.alloc (by omega) _).alloc (by simp; omega) _), by omega, by omega, by omega⟩
    case round =>
      clear x1 r1 s1 xc0 xc1 hB bW1 lb1 lb2 pq1 pq2 u1 u2 wa wb HL0 HH0
      obtain ⟨q, rfl, hq2, hqm, hN⟩ := hrel
      skip
      obtain ⟨wo, rfl⟩ : ∃ wo, wo = wr := ⟨_, rfl⟩
      obtain ⟨bl1, bl2, bl3⟩ := lowN_bd (P := P) (Q := Q) hP hQ (q - 2) (by omega)
      obtain ⟨bh1, bh2, bh3⟩ := highN_bd (P := P) (Q := Q) hP hQ (q - 2) (by omega)
      by_cases hlt : q ≤ most
      · have e1 : decide ((q : Int) ≤ most) = true := by simp; omega
        have HL := Lib.hid (lowN_q P Q hq2)
        have HH := Lib.hid (highN_q P Q hq2)
        obtain ⟨⟨l1, l2⟩, hl⟩ : ∃ p, lowN P Q (q - 2) = p := ⟨_, rfl⟩
        obtain ⟨⟨h1, h2⟩, hh⟩ : ∃ p, highN P Q (q - 2) = p := ⟨_, rfl⟩
        rw [hl] at hN HL bl1 bl2 bl3
        rw [hh] at hN HH bh1 bh2 bh3
        simp only at bl1 bl2 bl3 bh1 bh2 bh3
        clear hl hh
        obtain ⟨R, hR⟩ : ∃ R, P * q = R := ⟨_, rfl⟩
        have hR1 : R ≤ 1000000000000 := by rw [← hR]; exact nmul_bd hP (by omega)
        have pr : (P : Int) * (q : Int) = (R : Int) := by rw [← Int.natCast_mul, hR]
        have pw : IntKind.i64.wrap (R : Int) = (R : Int) := IntWalk.i64_in _ (by omega)
        obtain ⟨a, ha⟩ : ∃ a, R / Q = a := ⟨_, rfl⟩
        obtain ⟨b, hb⟩ : ∃ b, (R + Q - 1) / Q = b := ⟨_, rfl⟩
        rw [hR, ha] at HL
        rw [hR, hb] at HH
        have ab1 : a ≤ 2000000000000 := by rw [← ha]; exact Nat.le_trans (Nat.div_le_self _ _) (by omega)
        have ab2 : b ≤ 2000000000000 := by rw [← hb]; exact Nat.le_trans (Nat.div_le_self _ _) (by omega)
        have qa : (R : Int).tdiv (Q : Int) = (a : Int) := by rw [Int.tdiv_eq_ediv_of_nonneg (by omega), ← ha]; rfl
        have qb : ((R : Int) + (Q : Int) - 1).tdiv (Q : Int) = (b : Int) := by rw [show (R : Int) + Q - 1 = ((R + Q - 1 : Nat) : Int) by omega, Int.tdiv_eq_ediv_of_nonneg (by omega), ← hb]; rfl
        have ua : IntKind.i64.wrap (a : Int) = (a : Int) := IntWalk.i64_in _ (by omega)
        have ub : IntKind.i64.wrap (b : Int) = (b : Int) := IntWalk.i64_in _ (by omega)
        have wa : IntKind.i64.wrap ((R : Int) + (Q : Int)) = (R : Int) + (Q : Int) := IntWalk.i64_in _ (by omega)
        have wb : IntKind.i64.wrap ((R : Int) + (Q : Int) - 1) = (R : Int) + (Q : Int) - 1 := IntWalk.i64_in _ (by omega)
        clear ha hb hR
        have wl1 := nat_wrap (a := l1) (b := q) (by have := nprod_bd bl1 (show q ≤ 1000000 by omega); omega)
        have wl2 := nat_wrap (a := a) (b := l2) (by have := nprod_bd ab1 (show l2 ≤ 1000000 by omega); omega)
        have wh1 := nat_wrap (a := b) (b := h2) (by have := nprod_bd ab2 (show h2 ≤ 1000000 by omega); omega)
        have wh2 := nat_wrap (a := h1) (b := q) (by have := nprod_bd bh1 (show q ≤ 1000000 by omega); omega)
        have hN0 : NSt H (B) (B + 1) P Q l1 l2 h1 h2 w wo := hN.out
        obtain ⟨xx1, xx2, _, _⟩ := fr_cells hN0.x
        have nb0 := hN0.b7
        have nb1 := hN0.b8
        obtain ⟨S, hS⟩ : ∃ S, wo.heap.size = S := ⟨_, rfl⟩
        have hSl := heap_lt hN0.lo
        have hSh := heap_lt hN0.hi
        rw [hS] at hSl hSh
        go_wp2_with fail
        go_region_held (fun w' => w'.cell? ⟨H, 0, none⟩ = some (.int .i64 P) ∧ w'.cell? ⟨H, 1, none⟩ = some (.int .i64 Q)) (go_keep) (fail)
        · have hN1 : NSt H (B) (B + 1) P Q l1 l2 h1 h2 w (((wo.alloc (.cells #[.int .i64 a, .int .i64 q] 23)).alloc (.cells #[.int .i64 b, .int .i64 q] 23)).drew) := ((hN0.alloc (.cells #[.int .i64 a, .int .i64 q] 23)).alloc (.cells #[.int .i64 b, .int .i64 q] 23)).below (below_dr _ _ 1)
          obtain ⟨W1, hW1⟩ : ∃ W1, ((wo.alloc (.cells #[.int .i64 a, .int .i64 q] 23)).alloc (.cells #[.int .i64 b, .int .i64 q] 23)).drew = W1 := ⟨_, rfl⟩
          have hX : W1.heap[S]? = some (.cells #[.int .i64 a, .int .i64 q] 23) := by rw [← hW1]; exact heap_drew (heap_alloc_old _ _ (heap_new' _ _ _ hS))
          have hY : W1.heap[S + 1]? = some (.cells #[.int .i64 b, .int .i64 q] 23) := by rw [← hW1]; exact heap_drew (heap_new' _ _ _ (by simp [hS]))
          rw [hW1] at hN1 ⊢
          clear hW1 hS hN0 hN xx1 xx2 pr pw qa qb ua ub wa wb
          obtain ⟨xa1, xa2, _, _⟩ := fr_cells hX
          obtain ⟨xl1, xl2, xl3, xl4⟩ := fr_cells hN1.lo
          by_cases k1 : l1 * q < a * l2
          · by_cases k2 : b * h2 < h1 * q
            · have c1 : decide ((l1 : Int) * (q : Int) < (a : Int) * (l2 : Int)) = true := by rw [← Int.natCast_mul, ← Int.natCast_mul]; simp only [decide_eq_true_eq]; omega
              have c2 : decide ((b : Int) * (h2 : Int) < (h1 : Int) * (q : Int)) = true := by rw [← Int.natCast_mul, ← Int.natCast_mul]; simp only [decide_eq_true_eq]; omega
              have HLO2 : Hid (lowN P Q (q + 1 - 2) = (a, q)) := Lib.hid (HL.out.trans (if_pos k1))
              have HHI2 : Hid (highN P Q (q + 1 - 2) = (b, q)) := Lib.hid (HH.out.trans (if_pos k2))
              clear k1 k2
              have hN3 := hN1.setLo a q
              obtain ⟨W3, hW3⟩ : ∃ W3, (W1.setCell ⟨B, 0, none⟩ (.int .i64 a)).setCell ⟨B, 1, none⟩ (.int .i64 q) = W3 := ⟨_, rfl⟩
              rw [hW3] at hN3
              have hb3 : W3.heap[S + 1]? = some (.cells #[.int .i64 b, .int .i64 q] 23) := by rw [← hW3, heap_set_far _ (by omega), heap_set_far _ (by omega)]; exact hY
              obtain ⟨zb1, zb2, _, _⟩ := fr_cells hb3
              obtain ⟨zh1, zh2, zh3, zh4⟩ := fr_cells hN3.hi
              have hN6 := hN3.setHi b q
              have hN7 := Lib.hid hN6
              clear hN6
              go_wp2_with fail
              go_roundw
              case rel => exact ⟨q + 1, by go_num, by omega, by omega, Lib.hid (by rw [HLO2.out, HHI2.out]; exact hN7.out)⟩
              case measure => simp [intOf]; omega
            · have c1 : decide ((l1 : Int) * (q : Int) < (a : Int) * (l2 : Int)) = true := by rw [← Int.natCast_mul, ← Int.natCast_mul]; simp only [decide_eq_true_eq]; omega
              have c2 : decide ((b : Int) * (h2 : Int) < (h1 : Int) * (q : Int)) = false := by rw [← Int.natCast_mul, ← Int.natCast_mul]; simp only [decide_eq_false_iff_not]; omega
              have HLO2 : Hid (lowN P Q (q + 1 - 2) = (a, q)) := Lib.hid (HL.out.trans (if_pos k1))
              have HHI2 : Hid (highN P Q (q + 1 - 2) = (h1, h2)) := Lib.hid (HH.out.trans (if_neg k2))
              clear k1 k2
              have hN3 := hN1.setLo a q
              obtain ⟨W3, hW3⟩ : ∃ W3, (W1.setCell ⟨B, 0, none⟩ (.int .i64 a)).setCell ⟨B, 1, none⟩ (.int .i64 q) = W3 := ⟨_, rfl⟩
              rw [hW3] at hN3
              have hb3 : W3.heap[S + 1]? = some (.cells #[.int .i64 b, .int .i64 q] 23) := by rw [← hW3, heap_set_far _ (by omega), heap_set_far _ (by omega)]; exact hY
              obtain ⟨zb1, zb2, _, _⟩ := fr_cells hb3
              obtain ⟨zh1, zh2, zh3, zh4⟩ := fr_cells hN3.hi
              have hN6 := hN3
              have hN7 := Lib.hid hN6
              clear hN6
              go_wp2_with fail
              go_roundw
              case rel => exact ⟨q + 1, by go_num, by omega, by omega, Lib.hid (by rw [HLO2.out, HHI2.out]; exact hN7.out)⟩
              case measure => simp [intOf]; omega
          · by_cases k2 : b * h2 < h1 * q
            · have c1 : decide ((l1 : Int) * (q : Int) < (a : Int) * (l2 : Int)) = false := by rw [← Int.natCast_mul, ← Int.natCast_mul]; simp only [decide_eq_false_iff_not]; omega
              have c2 : decide ((b : Int) * (h2 : Int) < (h1 : Int) * (q : Int)) = true := by rw [← Int.natCast_mul, ← Int.natCast_mul]; simp only [decide_eq_true_eq]; omega
              have HLO2 : Hid (lowN P Q (q + 1 - 2) = (l1, l2)) := Lib.hid (HL.out.trans (if_neg k1))
              have HHI2 : Hid (highN P Q (q + 1 - 2) = (b, q)) := Lib.hid (HH.out.trans (if_pos k2))
              clear k1 k2
              have hN3 := hN1
              have hb3 := hY
              obtain ⟨zb1, zb2, _, _⟩ := fr_cells hb3
              obtain ⟨zh1, zh2, zh3, zh4⟩ := fr_cells hN3.hi
              have hN6 := hN3.setHi b q
              have hN7 := Lib.hid hN6
              clear hN6
              go_wp2_with fail
              go_roundw
              case rel => exact ⟨q + 1, by go_num, by omega, by omega, Lib.hid (by rw [HLO2.out, HHI2.out]; exact hN7.out)⟩
              case measure => simp [intOf]; omega
            · have c1 : decide ((l1 : Int) * (q : Int) < (a : Int) * (l2 : Int)) = false := by rw [← Int.natCast_mul, ← Int.natCast_mul]; simp only [decide_eq_false_iff_not]; omega
              have c2 : decide ((b : Int) * (h2 : Int) < (h1 : Int) * (q : Int)) = false := by rw [← Int.natCast_mul, ← Int.natCast_mul]; simp only [decide_eq_false_iff_not]; omega
              have HLO2 : Hid (lowN P Q (q + 1 - 2) = (l1, l2)) := Lib.hid (HL.out.trans (if_neg k1))
              have HHI2 : Hid (highN P Q (q + 1 - 2) = (h1, h2)) := Lib.hid (HH.out.trans (if_neg k2))
              clear k1 k2
              have hN3 := hN1
              have hb3 := hY
              obtain ⟨zb1, zb2, _, _⟩ := fr_cells hb3
              obtain ⟨zh1, zh2, zh3, zh4⟩ := fr_cells hN3.hi
              have hN6 := hN3
              have hN7 := Lib.hid hN6
              clear hN6
              go_wp2_with fail
              go_roundw
              case rel => exact ⟨q + 1, by go_num, by omega, by omega, Lib.hid (by rw [HLO2.out, HHI2.out]; exact hN7.out)⟩
              case measure => simp [intOf]; omega
        · have hN1 : NSt H (B) (B + 1) P Q l1 l2 h1 h2 w (((wo.alloc (.cells #[.int .i64 b, .int .i64 q] 23)).alloc (.cells #[.int .i64 a, .int .i64 q] 23)).drew) := ((hN0.alloc (.cells #[.int .i64 b, .int .i64 q] 23)).alloc (.cells #[.int .i64 a, .int .i64 q] 23)).below (below_dr _ _ 1)
          obtain ⟨W1, hW1⟩ : ∃ W1, ((wo.alloc (.cells #[.int .i64 b, .int .i64 q] 23)).alloc (.cells #[.int .i64 a, .int .i64 q] 23)).drew = W1 := ⟨_, rfl⟩
          have hX : W1.heap[S]? = some (.cells #[.int .i64 b, .int .i64 q] 23) := by rw [← hW1]; exact heap_drew (heap_alloc_old _ _ (heap_new' _ _ _ hS))
          have hY : W1.heap[S + 1]? = some (.cells #[.int .i64 a, .int .i64 q] 23) := by rw [← hW1]; exact heap_drew (heap_new' _ _ _ (by simp [hS]))
          rw [hW1] at hN1 ⊢
          clear hW1 hS hN0 hN xx1 xx2 pr pw qa qb ua ub wa wb
          obtain ⟨xa1, xa2, _, _⟩ := fr_cells hY
          obtain ⟨xl1, xl2, xl3, xl4⟩ := fr_cells hN1.lo
          by_cases k1 : l1 * q < a * l2
          · by_cases k2 : b * h2 < h1 * q
            · have c1 : decide ((l1 : Int) * (q : Int) < (a : Int) * (l2 : Int)) = true := by rw [← Int.natCast_mul, ← Int.natCast_mul]; simp only [decide_eq_true_eq]; omega
              have c2 : decide ((b : Int) * (h2 : Int) < (h1 : Int) * (q : Int)) = true := by rw [← Int.natCast_mul, ← Int.natCast_mul]; simp only [decide_eq_true_eq]; omega
              have HLO2 : Hid (lowN P Q (q + 1 - 2) = (a, q)) := Lib.hid (HL.out.trans (if_pos k1))
              have HHI2 : Hid (highN P Q (q + 1 - 2) = (b, q)) := Lib.hid (HH.out.trans (if_pos k2))
              clear k1 k2
              have hN3 := hN1.setLo a q
              obtain ⟨W3, hW3⟩ : ∃ W3, (W1.setCell ⟨B, 0, none⟩ (.int .i64 a)).setCell ⟨B, 1, none⟩ (.int .i64 q) = W3 := ⟨_, rfl⟩
              rw [hW3] at hN3
              have hb3 : W3.heap[S]? = some (.cells #[.int .i64 b, .int .i64 q] 23) := by rw [← hW3, heap_set_far _ (by omega), heap_set_far _ (by omega)]; exact hX
              obtain ⟨zb1, zb2, _, _⟩ := fr_cells hb3
              obtain ⟨zh1, zh2, zh3, zh4⟩ := fr_cells hN3.hi
              have hN6 := hN3.setHi b q
              have hN7 := Lib.hid hN6
              clear hN6
              go_wp2_with fail
              go_roundw
              case rel => exact ⟨q + 1, by go_num, by omega, by omega, Lib.hid (by rw [HLO2.out, HHI2.out]; exact hN7.out)⟩
              case measure => simp [intOf]; omega
            · have c1 : decide ((l1 : Int) * (q : Int) < (a : Int) * (l2 : Int)) = true := by rw [← Int.natCast_mul, ← Int.natCast_mul]; simp only [decide_eq_true_eq]; omega
              have c2 : decide ((b : Int) * (h2 : Int) < (h1 : Int) * (q : Int)) = false := by rw [← Int.natCast_mul, ← Int.natCast_mul]; simp only [decide_eq_false_iff_not]; omega
              have HLO2 : Hid (lowN P Q (q + 1 - 2) = (a, q)) := Lib.hid (HL.out.trans (if_pos k1))
              have HHI2 : Hid (highN P Q (q + 1 - 2) = (h1, h2)) := Lib.hid (HH.out.trans (if_neg k2))
              clear k1 k2
              have hN3 := hN1.setLo a q
              obtain ⟨W3, hW3⟩ : ∃ W3, (W1.setCell ⟨B, 0, none⟩ (.int .i64 a)).setCell ⟨B, 1, none⟩ (.int .i64 q) = W3 := ⟨_, rfl⟩
              rw [hW3] at hN3
              have hb3 : W3.heap[S]? = some (.cells #[.int .i64 b, .int .i64 q] 23) := by rw [← hW3, heap_set_far _ (by omega), heap_set_far _ (by omega)]; exact hX
              obtain ⟨zb1, zb2, _, _⟩ := fr_cells hb3
              obtain ⟨zh1, zh2, zh3, zh4⟩ := fr_cells hN3.hi
              have hN6 := hN3
              have hN7 := Lib.hid hN6
              clear hN6
              go_wp2_with fail
              go_roundw
              case rel => exact ⟨q + 1, by go_num, by omega, by omega, Lib.hid (by rw [HLO2.out, HHI2.out]; exact hN7.out)⟩
              case measure => simp [intOf]; omega
          · by_cases k2 : b * h2 < h1 * q
            · have c1 : decide ((l1 : Int) * (q : Int) < (a : Int) * (l2 : Int)) = false := by rw [← Int.natCast_mul, ← Int.natCast_mul]; simp only [decide_eq_false_iff_not]; omega
              have c2 : decide ((b : Int) * (h2 : Int) < (h1 : Int) * (q : Int)) = true := by rw [← Int.natCast_mul, ← Int.natCast_mul]; simp only [decide_eq_true_eq]; omega
              have HLO2 : Hid (lowN P Q (q + 1 - 2) = (l1, l2)) := Lib.hid (HL.out.trans (if_neg k1))
              have HHI2 : Hid (highN P Q (q + 1 - 2) = (b, q)) := Lib.hid (HH.out.trans (if_pos k2))
              clear k1 k2
              have hN3 := hN1
              have hb3 := hX
              obtain ⟨zb1, zb2, _, _⟩ := fr_cells hb3
              obtain ⟨zh1, zh2, zh3, zh4⟩ := fr_cells hN3.hi
              have hN6 := hN3.setHi b q
              have hN7 := Lib.hid hN6
              clear hN6
              go_wp2_with fail
              go_roundw
              case rel => exact ⟨q + 1, by go_num, by omega, by omega, Lib.hid (by rw [HLO2.out, HHI2.out]; exact hN7.out)⟩
              case measure => simp [intOf]; omega
            · have c1 : decide ((l1 : Int) * (q : Int) < (a : Int) * (l2 : Int)) = false := by rw [← Int.natCast_mul, ← Int.natCast_mul]; simp only [decide_eq_false_iff_not]; omega
              have c2 : decide ((b : Int) * (h2 : Int) < (h1 : Int) * (q : Int)) = false := by rw [← Int.natCast_mul, ← Int.natCast_mul]; simp only [decide_eq_false_iff_not]; omega
              have HLO2 : Hid (lowN P Q (q + 1 - 2) = (l1, l2)) := Lib.hid (HL.out.trans (if_neg k1))
              have HHI2 : Hid (highN P Q (q + 1 - 2) = (h1, h2)) := Lib.hid (HH.out.trans (if_neg k2))
              clear k1 k2
              have hN3 := hN1
              have hb3 := hX
              obtain ⟨zb1, zb2, _, _⟩ := fr_cells hb3
              obtain ⟨zh1, zh2, zh3, zh4⟩ := fr_cells hN3.hi
              have hN6 := hN3
              have hN7 := Lib.hid hN6
              clear hN6
              go_wp2_with fail
              go_roundw
              case rel => exact ⟨q + 1, by go_num, by omega, by omega, Lib.hid (by rw [HLO2.out, HHI2.out]; exact hN7.out)⟩
              case measure => simp [intOf]; omega
      · obtain rfl : q = most + 1 := by omega
        have e1 : decide ((most : Int) + 1 ≤ most) = false := by simp; omega
        rw [show most + 1 - 2 = most - 1 by omega] at hN bl1 bl2 bl3 bh1 bh2 bh3
        skip
        obtain ⟨⟨l1, l2⟩, hl⟩ : ∃ p, lowN P Q (most - 1) = p := ⟨_, rfl⟩
        obtain ⟨⟨h1, h2⟩, hh⟩ : ∃ p, highN P Q (most - 1) = p := ⟨_, rfl⟩
        rw [hl] at hN bl1 bl2 bl3
        rw [hh] at hN bh1 bh2 bh3
        have HLH := Lib.hid (And.intro hl hh)
        simp only at bl1 bl2 bl3 bh1 bh2 bh3
        clear hl hh
        have CA := Lib.hid (fun X => ref_Lowest l1 l2 X (by omega) bl2 (by omega))
        have CB := Lib.hid (fun X => ref_Lowest h1 h2 X (by omega) bh2 (by omega))
        have hN0 : NSt H (B) (B + 1) P Q l1 l2 h1 h2 w wo := hN.out
        obtain ⟨xl1, xl2, _, _⟩ := fr_cells hN0.lo
        obtain ⟨xh1, xh2, _, _⟩ := fr_cells hN0.hi
        obtain ⟨p1, hp1⟩ : ∃ p, l1 / Nat.gcd l1 l2 = p := ⟨_, rfl⟩
        obtain ⟨p2, hp2⟩ : ∃ p, l2 / Nat.gcd l1 l2 = p := ⟨_, rfl⟩
        obtain ⟨p3, hp3⟩ : ∃ p, h1 / Nat.gcd h1 h2 = p := ⟨_, rfl⟩
        obtain ⟨p4, hp4⟩ : ∃ p, h2 / Nat.gcd h1 h2 = p := ⟨_, rfl⟩
        rw [hp1, hp2] at CA
        rw [hp3, hp4] at CB
        have HPP := Lib.hid (And.intro hp1 (And.intro hp2 (And.intro hp3 hp4)))
        clear hp1 hp2 hp3 hp4
        have ne0 : ¬ H = B := by omega
        have ne1 : ¬ H + 1 = B := by omega
        have ne2 : ¬ H + 2 = B := by omega
        go_wp2_with fail
        go_region_held3 (fun w' => w'.cell? ⟨B, 0, none⟩ = some (.int .i64 l1) ∧ w'.cell? ⟨B, 1, none⟩ = some (.int .i64 l2) ∧ w'.cell? ⟨B + 1, 0, none⟩ = some (.int .i64 h1) ∧ w'.cell? ⟨B + 1, 1, none⟩ = some (.int .i64 h2)) (first | go_keep | (exact four_below (by assumption) (by assumption)))
          (first
            | (go_at_call 50; (with_reducible refine (CA.out _).mono ?_); rintro e w5 ⟨rfl, b5⟩; have rw5 := heap_below (k := H + 1) (o := .cells #[.int .i64 0, .int .i64 0] 23) (by first | assumption | exact hN0.r1) b5; have sw5 := heap_below (k := H + 2) (o := .cells #[.int .i64 0, .int .i64 0] 23) (by first | assumption | exact hN0.r2) b5; obtain ⟨caw5, cbw5, ccw5, cdw5⟩ := fr_cells rw5; obtain ⟨daw5, dbw5, dcw5, ddw5⟩ := fr_cells sw5)
            | (go_at_call 50; (with_reducible refine (CB.out _).mono ?_); rintro e w6 ⟨rfl, b6⟩; have rw6 := heap_below (k := H + 1) (o := .cells #[.int .i64 0, .int .i64 0] 23) (by first | assumption | exact hN0.r1) b6; have sw6 := heap_below (k := H + 2) (o := .cells #[.int .i64 0, .int .i64 0] 23) (by first | assumption | exact hN0.r2) b6; obtain ⟨caw6, cbw6, ccw6, cdw6⟩ := fr_cells rw6; obtain ⟨daw6, dbw6, dcw6, ddw6⟩ := fr_cells sw6)
            | fail)
        have hw0 := heap_lt hN0.x
        have hw5 := heap_lt rw5
        have bel6 : Below w.heap.size w w6 := by rw [hH]; exact ((below_drew1 hN0.bel).trans (b5.mono (Nat.le_of_lt hw0))).trans (b6.mono (by omega))
        obtain ⟨Y, hY, y1, y2, y3, y4, yb⟩ := res4 (R1 := H + 1) (R2 := H + 1 + 1) rw6 sw6 (by omega) (by omega) (by omega) bel6 p1 p2 p3 p4
        rw [hY]
        clear hY hW0 hN hN0 bel6 b5 b6
        go_wp2_with fail
        refine bodyPost_ret (by simp [results, Try.results12, go_sem, y1, y2, y3, y4]; try rfl) rfl ?_
        refine ⟨?_, yb⟩
        obtain ⟨q1, q2⟩ := HLH.out
        obtain ⟨z1, z2, z3, z4⟩ := HPP.out
        rw [q1, q2]
        simp only
        rw [z1, z2, z3, z4]
  · go_wp2_with fail
    go_loopw [8] (fun vq wr => ∃ q : Nat, vq = .int .i64 q ∧ 2 ≤ q ∧ q ≤ most + 1 ∧ Hid (NSt H (B + 1) (B) P Q (lowN P Q (q - 2)).1 (lowN P Q (q - 2)).2 (highN P Q (q - 2)).1 (highN P Q (q - 2)).2 w wr)) (fun vq _ => most + 1 - (intOf vq).toNat)
    case atStart =>
      refine ⟨2, rfl, by omega, by omega, Lib.hid ?_⟩
      show NSt H (B + 1) (B) P Q (lowN P Q 0).1 (lowN P Q 0).2 (highN P Q 0).1 (highN P Q 0).2 w _
      rw [← HL0.out, ← HH0.out]
      exact ⟨heap_drew (heap_alloc_old _ _ (heap_alloc_old _ _ x1)), heap_drew (heap_alloc_old _ _ (heap_alloc_old _ _ r1)), heap_drew (heap_alloc_old _ _ (heap_alloc_old _ _ s1)), heap_drew (heap_new' _ _ _ (by simp [hB])), heap_drew (heap_alloc_old _ _ (heap_new' _ _ _ hB)), below_drew1 ((bW1.alloc (by omega) _).alloc (by simp; omega) _), by omega, by omega, by omega⟩
    case round =>
      clear x1 r1 s1 xc0 xc1 hB bW1 lb1 lb2 pq1 pq2 u1 u2 wa wb HL0 HH0
      obtain ⟨q, rfl, hq2, hqm, hN⟩ := hrel
      skip
      obtain ⟨wo, rfl⟩ : ∃ wo, wo = wr := ⟨_, rfl⟩
      obtain ⟨bl1, bl2, bl3⟩ := lowN_bd (P := P) (Q := Q) hP hQ (q - 2) (by omega)
      obtain ⟨bh1, bh2, bh3⟩ := highN_bd (P := P) (Q := Q) hP hQ (q - 2) (by omega)
      by_cases hlt : q ≤ most
      · have e1 : decide ((q : Int) ≤ most) = true := by simp; omega
        have HL := Lib.hid (lowN_q P Q hq2)
        have HH := Lib.hid (highN_q P Q hq2)
        obtain ⟨⟨l1, l2⟩, hl⟩ : ∃ p, lowN P Q (q - 2) = p := ⟨_, rfl⟩
        obtain ⟨⟨h1, h2⟩, hh⟩ : ∃ p, highN P Q (q - 2) = p := ⟨_, rfl⟩
        rw [hl] at hN HL bl1 bl2 bl3
        rw [hh] at hN HH bh1 bh2 bh3
        simp only at bl1 bl2 bl3 bh1 bh2 bh3
        clear hl hh
        obtain ⟨R, hR⟩ : ∃ R, P * q = R := ⟨_, rfl⟩
        have hR1 : R ≤ 1000000000000 := by rw [← hR]; exact nmul_bd hP (by omega)
        have pr : (P : Int) * (q : Int) = (R : Int) := by rw [← Int.natCast_mul, hR]
        have pw : IntKind.i64.wrap (R : Int) = (R : Int) := IntWalk.i64_in _ (by omega)
        obtain ⟨a, ha⟩ : ∃ a, R / Q = a := ⟨_, rfl⟩
        obtain ⟨b, hb⟩ : ∃ b, (R + Q - 1) / Q = b := ⟨_, rfl⟩
        rw [hR, ha] at HL
        rw [hR, hb] at HH
        have ab1 : a ≤ 2000000000000 := by rw [← ha]; exact Nat.le_trans (Nat.div_le_self _ _) (by omega)
        have ab2 : b ≤ 2000000000000 := by rw [← hb]; exact Nat.le_trans (Nat.div_le_self _ _) (by omega)
        have qa : (R : Int).tdiv (Q : Int) = (a : Int) := by rw [Int.tdiv_eq_ediv_of_nonneg (by omega), ← ha]; rfl
        have qb : ((R : Int) + (Q : Int) - 1).tdiv (Q : Int) = (b : Int) := by rw [show (R : Int) + Q - 1 = ((R + Q - 1 : Nat) : Int) by omega, Int.tdiv_eq_ediv_of_nonneg (by omega), ← hb]; rfl
        have ua : IntKind.i64.wrap (a : Int) = (a : Int) := IntWalk.i64_in _ (by omega)
        have ub : IntKind.i64.wrap (b : Int) = (b : Int) := IntWalk.i64_in _ (by omega)
        have wa : IntKind.i64.wrap ((R : Int) + (Q : Int)) = (R : Int) + (Q : Int) := IntWalk.i64_in _ (by omega)
        have wb : IntKind.i64.wrap ((R : Int) + (Q : Int) - 1) = (R : Int) + (Q : Int) - 1 := IntWalk.i64_in _ (by omega)
        clear ha hb hR
        have wl1 := nat_wrap (a := l1) (b := q) (by have := nprod_bd bl1 (show q ≤ 1000000 by omega); omega)
        have wl2 := nat_wrap (a := a) (b := l2) (by have := nprod_bd ab1 (show l2 ≤ 1000000 by omega); omega)
        have wh1 := nat_wrap (a := b) (b := h2) (by have := nprod_bd ab2 (show h2 ≤ 1000000 by omega); omega)
        have wh2 := nat_wrap (a := h1) (b := q) (by have := nprod_bd bh1 (show q ≤ 1000000 by omega); omega)
        have hN0 : NSt H (B + 1) (B) P Q l1 l2 h1 h2 w wo := hN.out
        obtain ⟨xx1, xx2, _, _⟩ := fr_cells hN0.x
        have nb0 := hN0.b7
        have nb1 := hN0.b8
        obtain ⟨S, hS⟩ : ∃ S, wo.heap.size = S := ⟨_, rfl⟩
        have hSl := heap_lt hN0.lo
        have hSh := heap_lt hN0.hi
        rw [hS] at hSl hSh
        go_wp2_with fail
        go_region_held (fun w' => w'.cell? ⟨H, 0, none⟩ = some (.int .i64 P) ∧ w'.cell? ⟨H, 1, none⟩ = some (.int .i64 Q)) (go_keep) (fail)
        · have hN1 : NSt H (B + 1) (B) P Q l1 l2 h1 h2 w (((wo.alloc (.cells #[.int .i64 a, .int .i64 q] 23)).alloc (.cells #[.int .i64 b, .int .i64 q] 23)).drew) := ((hN0.alloc (.cells #[.int .i64 a, .int .i64 q] 23)).alloc (.cells #[.int .i64 b, .int .i64 q] 23)).below (below_dr _ _ 1)
          obtain ⟨W1, hW1⟩ : ∃ W1, ((wo.alloc (.cells #[.int .i64 a, .int .i64 q] 23)).alloc (.cells #[.int .i64 b, .int .i64 q] 23)).drew = W1 := ⟨_, rfl⟩
          have hX : W1.heap[S]? = some (.cells #[.int .i64 a, .int .i64 q] 23) := by rw [← hW1]; exact heap_drew (heap_alloc_old _ _ (heap_new' _ _ _ hS))
          have hY : W1.heap[S + 1]? = some (.cells #[.int .i64 b, .int .i64 q] 23) := by rw [← hW1]; exact heap_drew (heap_new' _ _ _ (by simp [hS]))
          rw [hW1] at hN1 ⊢
          clear hW1 hS hN0 hN xx1 xx2 pr pw qa qb ua ub wa wb
          obtain ⟨xa1, xa2, _, _⟩ := fr_cells hX
          obtain ⟨xl1, xl2, xl3, xl4⟩ := fr_cells hN1.lo
          by_cases k1 : l1 * q < a * l2
          · by_cases k2 : b * h2 < h1 * q
            · have c1 : decide ((l1 : Int) * (q : Int) < (a : Int) * (l2 : Int)) = true := by rw [← Int.natCast_mul, ← Int.natCast_mul]; simp only [decide_eq_true_eq]; omega
              have c2 : decide ((b : Int) * (h2 : Int) < (h1 : Int) * (q : Int)) = true := by rw [← Int.natCast_mul, ← Int.natCast_mul]; simp only [decide_eq_true_eq]; omega
              have HLO2 : Hid (lowN P Q (q + 1 - 2) = (a, q)) := Lib.hid (HL.out.trans (if_pos k1))
              have HHI2 : Hid (highN P Q (q + 1 - 2) = (b, q)) := Lib.hid (HH.out.trans (if_pos k2))
              clear k1 k2
              have hN3 := hN1.setLo a q
              obtain ⟨W3, hW3⟩ : ∃ W3, (W1.setCell ⟨B + 1, 0, none⟩ (.int .i64 a)).setCell ⟨B + 1, 1, none⟩ (.int .i64 q) = W3 := ⟨_, rfl⟩
              rw [hW3] at hN3
              have hb3 : W3.heap[S + 1]? = some (.cells #[.int .i64 b, .int .i64 q] 23) := by rw [← hW3, heap_set_far _ (by omega), heap_set_far _ (by omega)]; exact hY
              obtain ⟨zb1, zb2, _, _⟩ := fr_cells hb3
              obtain ⟨zh1, zh2, zh3, zh4⟩ := fr_cells hN3.hi
              have hN6 := hN3.setHi b q
              have hN7 := Lib.hid hN6
              clear hN6
              go_wp2_with fail
              go_roundw
              case rel => exact ⟨q + 1, by go_num, by omega, by omega, Lib.hid (by rw [HLO2.out, HHI2.out]; exact hN7.out)⟩
              case measure => simp [intOf]; omega
            · have c1 : decide ((l1 : Int) * (q : Int) < (a : Int) * (l2 : Int)) = true := by rw [← Int.natCast_mul, ← Int.natCast_mul]; simp only [decide_eq_true_eq]; omega
              have c2 : decide ((b : Int) * (h2 : Int) < (h1 : Int) * (q : Int)) = false := by rw [← Int.natCast_mul, ← Int.natCast_mul]; simp only [decide_eq_false_iff_not]; omega
              have HLO2 : Hid (lowN P Q (q + 1 - 2) = (a, q)) := Lib.hid (HL.out.trans (if_pos k1))
              have HHI2 : Hid (highN P Q (q + 1 - 2) = (h1, h2)) := Lib.hid (HH.out.trans (if_neg k2))
              clear k1 k2
              have hN3 := hN1.setLo a q
              obtain ⟨W3, hW3⟩ : ∃ W3, (W1.setCell ⟨B + 1, 0, none⟩ (.int .i64 a)).setCell ⟨B + 1, 1, none⟩ (.int .i64 q) = W3 := ⟨_, rfl⟩
              rw [hW3] at hN3
              have hb3 : W3.heap[S + 1]? = some (.cells #[.int .i64 b, .int .i64 q] 23) := by rw [← hW3, heap_set_far _ (by omega), heap_set_far _ (by omega)]; exact hY
              obtain ⟨zb1, zb2, _, _⟩ := fr_cells hb3
              obtain ⟨zh1, zh2, zh3, zh4⟩ := fr_cells hN3.hi
              have hN6 := hN3
              have hN7 := Lib.hid hN6
              clear hN6
              go_wp2_with fail
              go_roundw
              case rel => exact ⟨q + 1, by go_num, by omega, by omega, Lib.hid (by rw [HLO2.out, HHI2.out]; exact hN7.out)⟩
              case measure => simp [intOf]; omega
          · by_cases k2 : b * h2 < h1 * q
            · have c1 : decide ((l1 : Int) * (q : Int) < (a : Int) * (l2 : Int)) = false := by rw [← Int.natCast_mul, ← Int.natCast_mul]; simp only [decide_eq_false_iff_not]; omega
              have c2 : decide ((b : Int) * (h2 : Int) < (h1 : Int) * (q : Int)) = true := by rw [← Int.natCast_mul, ← Int.natCast_mul]; simp only [decide_eq_true_eq]; omega
              have HLO2 : Hid (lowN P Q (q + 1 - 2) = (l1, l2)) := Lib.hid (HL.out.trans (if_neg k1))
              have HHI2 : Hid (highN P Q (q + 1 - 2) = (b, q)) := Lib.hid (HH.out.trans (if_pos k2))
              clear k1 k2
              have hN3 := hN1
              have hb3 := hY
              obtain ⟨zb1, zb2, _, _⟩ := fr_cells hb3
              obtain ⟨zh1, zh2, zh3, zh4⟩ := fr_cells hN3.hi
              have hN6 := hN3.setHi b q
              have hN7 := Lib.hid hN6
              clear hN6
              go_wp2_with fail
              go_roundw
              case rel => exact ⟨q + 1, by go_num, by omega, by omega, Lib.hid (by rw [HLO2.out, HHI2.out]; exact hN7.out)⟩
              case measure => simp [intOf]; omega
            · have c1 : decide ((l1 : Int) * (q : Int) < (a : Int) * (l2 : Int)) = false := by rw [← Int.natCast_mul, ← Int.natCast_mul]; simp only [decide_eq_false_iff_not]; omega
              have c2 : decide ((b : Int) * (h2 : Int) < (h1 : Int) * (q : Int)) = false := by rw [← Int.natCast_mul, ← Int.natCast_mul]; simp only [decide_eq_false_iff_not]; omega
              have HLO2 : Hid (lowN P Q (q + 1 - 2) = (l1, l2)) := Lib.hid (HL.out.trans (if_neg k1))
              have HHI2 : Hid (highN P Q (q + 1 - 2) = (h1, h2)) := Lib.hid (HH.out.trans (if_neg k2))
              clear k1 k2
              have hN3 := hN1
              have hb3 := hY
              obtain ⟨zb1, zb2, _, _⟩ := fr_cells hb3
              obtain ⟨zh1, zh2, zh3, zh4⟩ := fr_cells hN3.hi
              have hN6 := hN3
              have hN7 := Lib.hid hN6
              clear hN6
              go_wp2_with fail
              go_roundw
              case rel => exact ⟨q + 1, by go_num, by omega, by omega, Lib.hid (by rw [HLO2.out, HHI2.out]; exact hN7.out)⟩
              case measure => simp [intOf]; omega
        · have hN1 : NSt H (B + 1) (B) P Q l1 l2 h1 h2 w (((wo.alloc (.cells #[.int .i64 b, .int .i64 q] 23)).alloc (.cells #[.int .i64 a, .int .i64 q] 23)).drew) := ((hN0.alloc (.cells #[.int .i64 b, .int .i64 q] 23)).alloc (.cells #[.int .i64 a, .int .i64 q] 23)).below (below_dr _ _ 1)
          obtain ⟨W1, hW1⟩ : ∃ W1, ((wo.alloc (.cells #[.int .i64 b, .int .i64 q] 23)).alloc (.cells #[.int .i64 a, .int .i64 q] 23)).drew = W1 := ⟨_, rfl⟩
          have hX : W1.heap[S]? = some (.cells #[.int .i64 b, .int .i64 q] 23) := by rw [← hW1]; exact heap_drew (heap_alloc_old _ _ (heap_new' _ _ _ hS))
          have hY : W1.heap[S + 1]? = some (.cells #[.int .i64 a, .int .i64 q] 23) := by rw [← hW1]; exact heap_drew (heap_new' _ _ _ (by simp [hS]))
          rw [hW1] at hN1 ⊢
          clear hW1 hS hN0 hN xx1 xx2 pr pw qa qb ua ub wa wb
          obtain ⟨xa1, xa2, _, _⟩ := fr_cells hY
          obtain ⟨xl1, xl2, xl3, xl4⟩ := fr_cells hN1.lo
          by_cases k1 : l1 * q < a * l2
          · by_cases k2 : b * h2 < h1 * q
            · have c1 : decide ((l1 : Int) * (q : Int) < (a : Int) * (l2 : Int)) = true := by rw [← Int.natCast_mul, ← Int.natCast_mul]; simp only [decide_eq_true_eq]; omega
              have c2 : decide ((b : Int) * (h2 : Int) < (h1 : Int) * (q : Int)) = true := by rw [← Int.natCast_mul, ← Int.natCast_mul]; simp only [decide_eq_true_eq]; omega
              have HLO2 : Hid (lowN P Q (q + 1 - 2) = (a, q)) := Lib.hid (HL.out.trans (if_pos k1))
              have HHI2 : Hid (highN P Q (q + 1 - 2) = (b, q)) := Lib.hid (HH.out.trans (if_pos k2))
              clear k1 k2
              have hN3 := hN1.setLo a q
              obtain ⟨W3, hW3⟩ : ∃ W3, (W1.setCell ⟨B + 1, 0, none⟩ (.int .i64 a)).setCell ⟨B + 1, 1, none⟩ (.int .i64 q) = W3 := ⟨_, rfl⟩
              rw [hW3] at hN3
              have hb3 : W3.heap[S]? = some (.cells #[.int .i64 b, .int .i64 q] 23) := by rw [← hW3, heap_set_far _ (by omega), heap_set_far _ (by omega)]; exact hX
              obtain ⟨zb1, zb2, _, _⟩ := fr_cells hb3
              obtain ⟨zh1, zh2, zh3, zh4⟩ := fr_cells hN3.hi
              have hN6 := hN3.setHi b q
              have hN7 := Lib.hid hN6
              clear hN6
              go_wp2_with fail
              go_roundw
              case rel => exact ⟨q + 1, by go_num, by omega, by omega, Lib.hid (by rw [HLO2.out, HHI2.out]; exact hN7.out)⟩
              case measure => simp [intOf]; omega
            · have c1 : decide ((l1 : Int) * (q : Int) < (a : Int) * (l2 : Int)) = true := by rw [← Int.natCast_mul, ← Int.natCast_mul]; simp only [decide_eq_true_eq]; omega
              have c2 : decide ((b : Int) * (h2 : Int) < (h1 : Int) * (q : Int)) = false := by rw [← Int.natCast_mul, ← Int.natCast_mul]; simp only [decide_eq_false_iff_not]; omega
              have HLO2 : Hid (lowN P Q (q + 1 - 2) = (a, q)) := Lib.hid (HL.out.trans (if_pos k1))
              have HHI2 : Hid (highN P Q (q + 1 - 2) = (h1, h2)) := Lib.hid (HH.out.trans (if_neg k2))
              clear k1 k2
              have hN3 := hN1.setLo a q
              obtain ⟨W3, hW3⟩ : ∃ W3, (W1.setCell ⟨B + 1, 0, none⟩ (.int .i64 a)).setCell ⟨B + 1, 1, none⟩ (.int .i64 q) = W3 := ⟨_, rfl⟩
              rw [hW3] at hN3
              have hb3 : W3.heap[S]? = some (.cells #[.int .i64 b, .int .i64 q] 23) := by rw [← hW3, heap_set_far _ (by omega), heap_set_far _ (by omega)]; exact hX
              obtain ⟨zb1, zb2, _, _⟩ := fr_cells hb3
              obtain ⟨zh1, zh2, zh3, zh4⟩ := fr_cells hN3.hi
              have hN6 := hN3
              have hN7 := Lib.hid hN6
              clear hN6
              go_wp2_with fail
              go_roundw
              case rel => exact ⟨q + 1, by go_num, by omega, by omega, Lib.hid (by rw [HLO2.out, HHI2.out]; exact hN7.out)⟩
              case measure => simp [intOf]; omega
          · by_cases k2 : b * h2 < h1 * q
            · have c1 : decide ((l1 : Int) * (q : Int) < (a : Int) * (l2 : Int)) = false := by rw [← Int.natCast_mul, ← Int.natCast_mul]; simp only [decide_eq_false_iff_not]; omega
              have c2 : decide ((b : Int) * (h2 : Int) < (h1 : Int) * (q : Int)) = true := by rw [← Int.natCast_mul, ← Int.natCast_mul]; simp only [decide_eq_true_eq]; omega
              have HLO2 : Hid (lowN P Q (q + 1 - 2) = (l1, l2)) := Lib.hid (HL.out.trans (if_neg k1))
              have HHI2 : Hid (highN P Q (q + 1 - 2) = (b, q)) := Lib.hid (HH.out.trans (if_pos k2))
              clear k1 k2
              have hN3 := hN1
              have hb3 := hX
              obtain ⟨zb1, zb2, _, _⟩ := fr_cells hb3
              obtain ⟨zh1, zh2, zh3, zh4⟩ := fr_cells hN3.hi
              have hN6 := hN3.setHi b q
              have hN7 := Lib.hid hN6
              clear hN6
              go_wp2_with fail
              go_roundw
              case rel => exact ⟨q + 1, by go_num, by omega, by omega, Lib.hid (by rw [HLO2.out, HHI2.out]; exact hN7.out)⟩
              case measure => simp [intOf]; omega
            · have c1 : decide ((l1 : Int) * (q : Int) < (a : Int) * (l2 : Int)) = false := by rw [← Int.natCast_mul, ← Int.natCast_mul]; simp only [decide_eq_false_iff_not]; omega
              have c2 : decide ((b : Int) * (h2 : Int) < (h1 : Int) * (q : Int)) = false := by rw [← Int.natCast_mul, ← Int.natCast_mul]; simp only [decide_eq_false_iff_not]; omega
              have HLO2 : Hid (lowN P Q (q + 1 - 2) = (l1, l2)) := Lib.hid (HL.out.trans (if_neg k1))
              have HHI2 : Hid (highN P Q (q + 1 - 2) = (h1, h2)) := Lib.hid (HH.out.trans (if_neg k2))
              clear k1 k2
              have hN3 := hN1
              have hb3 := hX
              obtain ⟨zb1, zb2, _, _⟩ := fr_cells hb3
              obtain ⟨zh1, zh2, zh3, zh4⟩ := fr_cells hN3.hi
              have hN6 := hN3
              have hN7 := Lib.hid hN6
              clear hN6
              go_wp2_with fail
              go_roundw
              case rel => exact ⟨q + 1, by go_num, by omega, by omega, Lib.hid (by rw [HLO2.out, HHI2.out]; exact hN7.out)⟩
              case measure => simp [intOf]; omega
      · obtain rfl : q = most + 1 := by omega
        have e1 : decide ((most : Int) + 1 ≤ most) = false := by simp; omega
        rw [show most + 1 - 2 = most - 1 by omega] at hN bl1 bl2 bl3 bh1 bh2 bh3
        skip
        obtain ⟨⟨l1, l2⟩, hl⟩ : ∃ p, lowN P Q (most - 1) = p := ⟨_, rfl⟩
        obtain ⟨⟨h1, h2⟩, hh⟩ : ∃ p, highN P Q (most - 1) = p := ⟨_, rfl⟩
        rw [hl] at hN bl1 bl2 bl3
        rw [hh] at hN bh1 bh2 bh3
        have HLH := Lib.hid (And.intro hl hh)
        simp only at bl1 bl2 bl3 bh1 bh2 bh3
        clear hl hh
        have CA := Lib.hid (fun X => ref_Lowest l1 l2 X (by omega) bl2 (by omega))
        have CB := Lib.hid (fun X => ref_Lowest h1 h2 X (by omega) bh2 (by omega))
        have hN0 : NSt H (B + 1) (B) P Q l1 l2 h1 h2 w wo := hN.out
        obtain ⟨xl1, xl2, _, _⟩ := fr_cells hN0.lo
        obtain ⟨xh1, xh2, _, _⟩ := fr_cells hN0.hi
        obtain ⟨p1, hp1⟩ : ∃ p, l1 / Nat.gcd l1 l2 = p := ⟨_, rfl⟩
        obtain ⟨p2, hp2⟩ : ∃ p, l2 / Nat.gcd l1 l2 = p := ⟨_, rfl⟩
        obtain ⟨p3, hp3⟩ : ∃ p, h1 / Nat.gcd h1 h2 = p := ⟨_, rfl⟩
        obtain ⟨p4, hp4⟩ : ∃ p, h2 / Nat.gcd h1 h2 = p := ⟨_, rfl⟩
        rw [hp1, hp2] at CA
        rw [hp3, hp4] at CB
        have HPP := Lib.hid (And.intro hp1 (And.intro hp2 (And.intro hp3 hp4)))
        clear hp1 hp2 hp3 hp4
        have ne0 : ¬ H = B := by omega
        have ne1 : ¬ H + 1 = B := by omega
        have ne2 : ¬ H + 2 = B := by omega
        go_wp2_with fail
        go_region_held3 (fun w' => w'.cell? ⟨B + 1, 0, none⟩ = some (.int .i64 l1) ∧ w'.cell? ⟨B + 1, 1, none⟩ = some (.int .i64 l2) ∧ w'.cell? ⟨B, 0, none⟩ = some (.int .i64 h1) ∧ w'.cell? ⟨B, 1, none⟩ = some (.int .i64 h2)) (first | go_keep | (exact four_below (by assumption) (by assumption)))
          (first
            | (go_at_call 50; (with_reducible refine (CA.out _).mono ?_); rintro e w5 ⟨rfl, b5⟩; have rw5 := heap_below (k := H + 1) (o := .cells #[.int .i64 0, .int .i64 0] 23) (by first | assumption | exact hN0.r1) b5; have sw5 := heap_below (k := H + 2) (o := .cells #[.int .i64 0, .int .i64 0] 23) (by first | assumption | exact hN0.r2) b5; obtain ⟨caw5, cbw5, ccw5, cdw5⟩ := fr_cells rw5; obtain ⟨daw5, dbw5, dcw5, ddw5⟩ := fr_cells sw5)
            | (go_at_call 50; (with_reducible refine (CB.out _).mono ?_); rintro e w6 ⟨rfl, b6⟩; have rw6 := heap_below (k := H + 1) (o := .cells #[.int .i64 0, .int .i64 0] 23) (by first | assumption | exact hN0.r1) b6; have sw6 := heap_below (k := H + 2) (o := .cells #[.int .i64 0, .int .i64 0] 23) (by first | assumption | exact hN0.r2) b6; obtain ⟨caw6, cbw6, ccw6, cdw6⟩ := fr_cells rw6; obtain ⟨daw6, dbw6, dcw6, ddw6⟩ := fr_cells sw6)
            | fail)
        have hw0 := heap_lt hN0.x
        have hw5 := heap_lt rw5
        have bel6 : Below w.heap.size w w6 := by rw [hH]; exact ((below_drew1 hN0.bel).trans (b5.mono (Nat.le_of_lt hw0))).trans (b6.mono (by omega))
        obtain ⟨Y, hY, y1, y2, y3, y4, yb⟩ := res4 (R1 := H + 1) (R2 := H + 1 + 1) rw6 sw6 (by omega) (by omega) (by omega) bel6 p1 p2 p3 p4
        rw [hY]
        clear hY hW0 hN hN0 bel6 b5 b6
        go_wp2_with fail
        refine bodyPost_ret (by simp [results, Try.results12, go_sem, y1, y2, y3, y4]; try rfl) rfl ?_
        refine ⟨?_, yb⟩
        obtain ⟨q1, q2⟩ := HLH.out
        obtain ⟨z1, z2, z3, z4⟩ := HPP.out
        rw [q1, q2]
        simp only
        rw [z1, z2, z3, z4]
end Go.Proofs.Ythnbhhfbmkklmaa
