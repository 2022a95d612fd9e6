/- pair.Mend with none lost. (Printed by wip/tools/gen_pair6.py.) -/
import Derived.Test.YthnbhhfbmkklmaaPair6
namespace Go.Proofs.Ythnbhhfbmkklmaa
open Go.RowKit

set_option maxRecDepth 100000 in
set_option maxHeartbeats 16000000 in
theorem pair_Mend0 (ss : List ByteArray) (n m : Nat) (ao : Option Addr) (cap : Nat) (p q : ByteArray)  (lo : Option Addr) (lc : Nat) (w : World) (h0 : StrsIn w ao n ss) (hr : Right ss n m)
    (hp : p.size = m) (hq : q.size = m) (hLr : Reads w lo (([] : List Int).map (Value.int .i64)))
    (CL : Calls Try.prog 53 #[.slice ao n cap, .string p, .string q, .slice lo 0 lc] w fun e w' => e = .returned (.int .i64 0) ∧ w = w') :
    Calls Try.prog 14 #[.slice ao n cap, .string p, .string q, .slice lo 0 lc] w (MendP (cond0 ss n p q) (sAt ss) m n w) := by
  have n1 := hr.n1
  have n10 := hr.n10
  have m64 := hr.m64
  have HR := Lib.hid hr
  have HLR := Lib.hid hLr
  have HCL := Lib.hid CL
  have HS4 := Lib.hid h0.2.2.2
  have hsl : Hid (ss.length = n) := Lib.hid hr.len
  have MK := mk_u8 m (by omega)
  obtain ⟨b0, o0, s0, rfl, _, _⟩ := head_cell hr h0.2.2.2
  have CC := Lib.hid (clone_str n (ss.map Value.string) (some ⟨b0, o0, none⟩) cap w.heap.size w (by omega) (by rw [List.length_map]; exact hr.len) (fun h => by cases h) HS4 (Lib.hid one_str) (Nat.le_refl _))
  clear CL hr hLr h0
  go_enter Try.func14, Try.ntmps14
  go_wp2_with fail
  (with_reducible refine HCL.out.mono ?_)
  rintro e w1 ⟨rfl, rfl⟩
  go_wp2_with fail
  (with_reducible refine CC.out.mono ?_)
  rintro e w2 ⟨v2, rfl, hO2, hb2⟩
  rw [strRow, hsl.out] at hO2
  obtain ⟨g0, cap0, rfl⟩ := own_form hO2 (fun h => by have := congrArg List.length h; rw [rowF_length] at this; simp at this; omega)
  have hcp := own_cap6 hO2
  have O0 : Own w2 w.heap.size 9 g0 n cap0 (fun j => .string (sAt ss j)) := hO2
  have HO0 := Lib.hid O0
  have HB2 := Lib.hid hb2
  have CS := Lib.hid (pair_sums ss n m (some ⟨b0, o0, none⟩) cap [] 0 lo lc w2 HR.out (Lib.hid (HS4.out.below hb2)) rfl (by omega) (Lib.hid (HLR.out.below hb2)))
  clear hO2 O0 hb2 CC HCL
  obtain ⟨hcp1, hcp2⟩ := hcp
  unfold maxLen at hcp2
  go_wp2_with fail
  (with_reducible refine CS.out.mono ?_)
  rintro e w3 ⟨gx, gy, rfl, OX, OY, hxy, hb3⟩
  have HST : Hid (MSt ss n m [] gx gy g0 cap0 (sAt ss) w w3) := Lib.hid ⟨own_mono OX HB2.out.size, own_mono OY HB2.out.size, HO0.out.below hb3, HB2.out.trans (hb3.mono HB2.out.size)⟩
  have hX0 : Hid (gx ≠ g0 ∧ gy ≠ g0) := Lib.hid (by
    have l1 := OX.lt
    have l2 := OY.lt
    have l3 := HO0.out.lt
    exact ⟨by omega, by omega⟩)
  clear OX OY hxy hb3 CS HO0
  go_wp2_with fail
  go_region
  · have OA := own_A' w.heap.size m w3 HST.out.bel.size (by omega)
    have OB := own_B' w.heap.size m w3 HST.out.bel.size (by omega)
    have ST4 := HST.out.below (show Below w3.heap.size w3 (((w3.alloc (.cells (rowF m (fun _ => Value.int .u8 0)).toArray 5)).alloc (.cells (rowF m (fun _ => Value.int .u8 0)).toArray 5)).drew) from below_drew1 (((Below.refl _ w3).alloc (Nat.le_refl _) _).alloc (by simp) _))
    obtain ⟨W4, hW4⟩ : ∃ W4, ((w3.alloc (.cells (rowF m (fun _ => Value.int .u8 0)).toArray 5)).alloc (.cells (rowF m (fun _ => Value.int .u8 0)).toArray 5)).drew = W4 := ⟨_, rfl⟩
    rw [hW4] at OA OB ST4 ⊢
    obtain ⟨g1, hg1⟩ : ∃ g, w3.heap.size = g := ⟨_, rfl⟩
    obtain ⟨g2, hg2⟩ : ∃ g, w3.heap.size + 1 = g := ⟨_, rfl⟩
    have lx := HST.out.ox.lt
    have ly := HST.out.oy.lt
    have l0 := HST.out.o0.lt
    have hne : Hid (gx ≠ g1 ∧ gy ≠ g1 ∧ g0 ≠ g1 ∧ gx ≠ g2 ∧ gy ≠ g2 ∧ g0 ≠ g2 ∧ g1 ≠ g2 ∧ w.heap.size ≤ g1 ∧ w.heap.size ≤ g2) := Lib.hid (by omega)
    have O1 : Hid (Own W4 w.heap.size 5 g1 m m (fun j => .int .u8 ((if j < 0 then 0 else 0 : Nat) : Int))) := Lib.hid (by rw [← hg1]; first | exact OA | exact OB)
    have O2 : Hid (Own W4 w.heap.size 5 g2 m m (fun j => .int .u8 ((if j < 0 then 0 else 0 : Nat) : Int))) := Lib.hid (by rw [← hg2]; first | exact OA | exact OB)
    have HS4' := Lib.hid ST4
    try rw [hg2]
    try rw [hg1]
    clear OA OB ST4 hW4 hg1 hg2 lx ly l0 HST MK
    go_wp2_with fail
    go_loopw [49] (fun vi wr => ∃ k : Nat, vi = .int .i64 k ∧ k ≤ m ∧ Hid (MSt ss n m [] gx gy g0 cap0 (sAt ss) w wr) ∧ Hid (∀ j, j < k → cond0 ss n p q j)) (fun vi _ => m - (intOf vi).toNat)
    case atStart => exact ⟨0, rfl, by omega, HS4', Lib.hid (fun j hj => by omega)⟩
    case round =>
      clear HS4' O1 O2
      obtain ⟨k, rfl, hk, HST, hC⟩ := hrel
      obtain ⟨wo, rfl⟩ : ∃ wo, wo = wr := ⟨_, rfl⟩
      by_cases hkm : k < m
      · obtain ⟨X, hX⟩ : ∃ x, xorN n (left [] (colP ss k)) = x := ⟨_, rfl⟩
        obtain ⟨Y, hY⟩ : ∃ x, xorN n (left [] (wtd (colP ss k))) = x := ⟨_, rfl⟩
        have hXb : X < 256 := by rw [← hX]; exact lsum_lt _ _ _ _
        have hYb : Y < 256 := by rw [← hY]; exact lwsum_lt _ _ _ _
        have cx := HST.out.ox.cell hkm
        have cy := HST.out.oy.cell hkm
        rw [hX] at cx
        rw [hY] at cy
        have kp : k < p.size := by omega
        have kq : k < q.size := by omega
        have bp := byteS_get p k kp
        have bq := byteS_get q k kq
        obtain ⟨a, ha⟩ : ∃ a, mA ss n p [] k = a := ⟨_, rfl⟩
        obtain ⟨b, hb⟩ : ∃ b, mB ss n q [] k = b := ⟨_, rfl⟩
        have hab : a < 256 := by rw [← ha]; exact mA_lt _ _ _ _ _
        have hbb : b < 256 := by rw [← hb]; exact mB_lt _ _ _ _ _
        have ea : bits .xor .u8 (X : Int) (p[k].toNat : Int) = (a : Int) := by rw [bp, u8_xor_nat X _ hXb (byteS_lt _ _), ← ha, ← hX]; rfl
        have eb : bits .xor .u8 (Y : Int) (q[k].toNat : Int) = (b : Int) := by rw [bq, u8_xor_nat Y _ hYb (byteS_lt _ _), ← hb, ← hY]; rfl
        have HA := Lib.hid ha
        have HB := Lib.hid hb
        clear hX hY bp bq ha hb
        have i0 : (0 : Int) ≤ (k : Int) := by omega
        have i1 : (k : Int) < (m : Int) := by omega
        have i2 : (k : Int) < (p.size : Int) := by omega
        have i3 : (k : Int) < (q.size : Int) := by omega
        have HP := Lib.hid hp
        have HQ := Lib.hid hq
        clear hp hq
        go_wp2_with fail
        go_quiet (fail)
        by_cases ha0 : a = 0
        · have ta : ((a : Int) == 0) = true := by simp [ha0]
          have tan : ((a : Int) != 0) = false := by simp [ha0]
          have HA0 := Lib.hid ha0
          clear ha0
          by_cases hb0 : b = 0
          · have tb : ((b : Int) == 0) = true := by simp [hb0]
            have tbn : ((b : Int) != 0) = false := by simp [hb0]
            have hC2 : Hid (∀ j, j < k + 1 → cond0 ss n p q j) := Lib.hid (fun j hj => by
              by_cases hj2 : j = k
              · subst hj2; exact ⟨HA.out.trans HA0.out, HB.out.trans hb0⟩
              · exact hC.out j (by omega))
            clear hb0
            go_wp2_with fail
            go_roundw
            case rel => exact ⟨k + 1, by go_num, by omega, Lib.hid (HST.out.below (below_dr _ _ _)), hC2⟩
            case measure => simp [intOf]; omega
          · have tb : ((b : Int) == 0) = false := by simp [hb0]
            have tbn : ((b : Int) != 0) = true := by simp [hb0]
            have hN : Hid (¬ ∀ j, j < m → cond0 ss n p q j) := Lib.hid (fun h => hb0 (HB.out.symm.trans (h k hkm).2))
            clear hb0
            go_wp2_with fail
            go_ret2
            exact .inr ⟨hN.out, rfl, (HST.out.below (below_dr _ _ _)).bel⟩
        · have ta : ((a : Int) == 0) = false := by simp [ha0]
          have tan : ((a : Int) != 0) = true := by simp [ha0]
          have hN : Hid (¬ ∀ j, j < m → cond0 ss n p q j) := Lib.hid (fun h => ha0 (HA.out.symm.trans (h k hkm).1))
          clear ha0
          go_wp2_with fail
          go_ret2
          exact .inr ⟨hN.out, rfl, (HST.out.below (below_dr _ _ _)).bel⟩
      · obtain rfl : k = m := by omega
        obtain ⟨S5, hS5⟩ : ∃ S, wo.heap.size = S := ⟨_, rfl⟩
        have ST5 := HST.out.below ((Below.refl wo.heap.size wo).alloc (Nat.le_refl _) (.cells #[.slice (some ⟨g1, 0, none⟩) k k, .slice (some ⟨g2, 0, none⟩) k k] 101))
        obtain ⟨W5, hW5⟩ : ∃ W5, wo.alloc (.cells #[.slice (some ⟨g1, 0, none⟩) k k, .slice (some ⟨g2, 0, none⟩) k k] 101) = W5 := ⟨_, rfl⟩
        have hN5 : W5.heap[S5]? = some (.cells #[.slice (some ⟨g1, 0, none⟩) k k, .slice (some ⟨g2, 0, none⟩) k k] 101) := by rw [← hW5, ← hS5]; exact heap_alloc_new _ _
        have x50 := heap_cell hN5 0
        have x51 := heap_cell hN5 1
        simp only [List.getElem?_toArray, List.getElem?_cons_zero, List.getElem?_cons_succ] at x50 x51
        have hb5 : Below wo.heap.size wo W5 := by rw [← hW5]; exact (Below.refl _ _).alloc (Nat.le_refl _) _
        have l05 : g0 < S5 := by rw [← hS5]; exact HST.out.o0.lt.2
        rw [hW5] at ST5
        have HS5 := Lib.hid ST5
        clear hN5 hb5 ST5 HST
        go_wp2_with fail
        refine wp_loop_rounds 3 ?_
        rw [rounds_succ]
        go_wp2_with fail
        rw [rounds_succ]
        go_wp2_with fail
        rw [rounds_succ]
        go_wp2_with fail
        (with_reducible refine (clip_str (some ⟨g0, 0, none⟩) n cap0 _ hcp2 hcp1).mono ?_)
        rintro e w9 ⟨rfl, rfl⟩
        go_wp2_with fail
        go_ret2
        exact .inl ⟨hC.out, g0, rfl, HS5.out.o0.reads, HS5.out.bel⟩
  · have OA := own_A' w.heap.size m w3 HST.out.bel.size (by omega)
    have OB := own_B' w.heap.size m w3 HST.out.bel.size (by omega)
    have ST4 := HST.out.below (show Below w3.heap.size w3 (((w3.alloc (.cells (rowF m (fun _ => Value.int .u8 0)).toArray 5)).alloc (.cells (rowF m (fun _ => Value.int .u8 0)).toArray 5)).drew) from below_drew1 (((Below.refl _ w3).alloc (Nat.le_refl _) _).alloc (by simp) _))
    obtain ⟨W4, hW4⟩ : ∃ W4, ((w3.alloc (.cells (rowF m (fun _ => Value.int .u8 0)).toArray 5)).alloc (.cells (rowF m (fun _ => Value.int .u8 0)).toArray 5)).drew = W4 := ⟨_, rfl⟩
    rw [hW4] at OA OB ST4 ⊢
    obtain ⟨g1, hg1⟩ : ∃ g, w3.heap.size + 1 = g := ⟨_, rfl⟩
    obtain ⟨g2, hg2⟩ : ∃ g, w3.heap.size = g := ⟨_, rfl⟩
    have lx := HST.out.ox.lt
    have ly := HST.out.oy.lt
    have l0 := HST.out.o0.lt
    have hne : Hid (gx ≠ g1 ∧ gy ≠ g1 ∧ g0 ≠ g1 ∧ gx ≠ g2 ∧ gy ≠ g2 ∧ g0 ≠ g2 ∧ g1 ≠ g2 ∧ w.heap.size ≤ g1 ∧ w.heap.size ≤ g2) := Lib.hid (by omega)
    have O1 : Hid (Own W4 w.heap.size 5 g1 m m (fun j => .int .u8 ((if j < 0 then 0 else 0 : Nat) : Int))) := Lib.hid (by rw [← hg1]; first | exact OA | exact OB)
    have O2 : Hid (Own W4 w.heap.size 5 g2 m m (fun j => .int .u8 ((if j < 0 then 0 else 0 : Nat) : Int))) := Lib.hid (by rw [← hg2]; first | exact OA | exact OB)
    have HS4' := Lib.hid ST4
    try rw [hg1]
    try rw [hg2]
    clear OA OB ST4 hW4 hg1 hg2 lx ly l0 HST MK
    go_wp2_with fail
    go_loopw [49] (fun vi wr => ∃ k : Nat, vi = .int .i64 k ∧ k ≤ m ∧ Hid (MSt ss n m [] gx gy g0 cap0 (sAt ss) w wr) ∧ Hid (∀ j, j < k → cond0 ss n p q j)) (fun vi _ => m - (intOf vi).toNat)
    case atStart => exact ⟨0, rfl, by omega, HS4', Lib.hid (fun j hj => by omega)⟩
    case round =>
      clear HS4' O1 O2
      obtain ⟨k, rfl, hk, HST, hC⟩ := hrel
      obtain ⟨wo, rfl⟩ : ∃ wo, wo = wr := ⟨_, rfl⟩
      by_cases hkm : k < m
      · obtain ⟨X, hX⟩ : ∃ x, xorN n (left [] (colP ss k)) = x := ⟨_, rfl⟩
        obtain ⟨Y, hY⟩ : ∃ x, xorN n (left [] (wtd (colP ss k))) = x := ⟨_, rfl⟩
        have hXb : X < 256 := by rw [← hX]; exact lsum_lt _ _ _ _
        have hYb : Y < 256 := by rw [← hY]; exact lwsum_lt _ _ _ _
        have cx := HST.out.ox.cell hkm
        have cy := HST.out.oy.cell hkm
        rw [hX] at cx
        rw [hY] at cy
        have kp : k < p.size := by omega
        have kq : k < q.size := by omega
        have bp := byteS_get p k kp
        have bq := byteS_get q k kq
        obtain ⟨a, ha⟩ : ∃ a, mA ss n p [] k = a := ⟨_, rfl⟩
        obtain ⟨b, hb⟩ : ∃ b, mB ss n q [] k = b := ⟨_, rfl⟩
        have hab : a < 256 := by rw [← ha]; exact mA_lt _ _ _ _ _
        have hbb : b < 256 := by rw [← hb]; exact mB_lt _ _ _ _ _
        have ea : bits .xor .u8 (X : Int) (p[k].toNat : Int) = (a : Int) := by rw [bp, u8_xor_nat X _ hXb (byteS_lt _ _), ← ha, ← hX]; rfl
        have eb : bits .xor .u8 (Y : Int) (q[k].toNat : Int) = (b : Int) := by rw [bq, u8_xor_nat Y _ hYb (byteS_lt _ _), ← hb, ← hY]; rfl
        have HA := Lib.hid ha
        have HB := Lib.hid hb
        clear hX hY bp bq ha hb
        have i0 : (0 : Int) ≤ (k : Int) := by omega
        have i1 : (k : Int) < (m : Int) := by omega
        have i2 : (k : Int) < (p.size : Int) := by omega
        have i3 : (k : Int) < (q.size : Int) := by omega
        have HP := Lib.hid hp
        have HQ := Lib.hid hq
        clear hp hq
        go_wp2_with fail
        go_quiet (fail)
        by_cases ha0 : a = 0
        · have ta : ((a : Int) == 0) = true := by simp [ha0]
          have tan : ((a : Int) != 0) = false := by simp [ha0]
          have HA0 := Lib.hid ha0
          clear ha0
          by_cases hb0 : b = 0
          · have tb : ((b : Int) == 0) = true := by simp [hb0]
            have tbn : ((b : Int) != 0) = false := by simp [hb0]
            have hC2 : Hid (∀ j, j < k + 1 → cond0 ss n p q j) := Lib.hid (fun j hj => by
              by_cases hj2 : j = k
              · subst hj2; exact ⟨HA.out.trans HA0.out, HB.out.trans hb0⟩
              · exact hC.out j (by omega))
            clear hb0
            go_wp2_with fail
            go_roundw
            case rel => exact ⟨k + 1, by go_num, by omega, Lib.hid (HST.out.below (below_dr _ _ _)), hC2⟩
            case measure => simp [intOf]; omega
          · have tb : ((b : Int) == 0) = false := by simp [hb0]
            have tbn : ((b : Int) != 0) = true := by simp [hb0]
            have hN : Hid (¬ ∀ j, j < m → cond0 ss n p q j) := Lib.hid (fun h => hb0 (HB.out.symm.trans (h k hkm).2))
            clear hb0
            go_wp2_with fail
            go_ret2
            exact .inr ⟨hN.out, rfl, (HST.out.below (below_dr _ _ _)).bel⟩
        · have ta : ((a : Int) == 0) = false := by simp [ha0]
          have tan : ((a : Int) != 0) = true := by simp [ha0]
          have hN : Hid (¬ ∀ j, j < m → cond0 ss n p q j) := Lib.hid (fun h => ha0 (HA.out.symm.trans (h k hkm).1))
          clear ha0
          go_wp2_with fail
          go_ret2
          exact .inr ⟨hN.out, rfl, (HST.out.below (below_dr _ _ _)).bel⟩
      · obtain rfl : k = m := by omega
        obtain ⟨S5, hS5⟩ : ∃ S, wo.heap.size = S := ⟨_, rfl⟩
        have ST5 := HST.out.below ((Below.refl wo.heap.size wo).alloc (Nat.le_refl _) (.cells #[.slice (some ⟨g1, 0, none⟩) k k, .slice (some ⟨g2, 0, none⟩) k k] 101))
        obtain ⟨W5, hW5⟩ : ∃ W5, wo.alloc (.cells #[.slice (some ⟨g1, 0, none⟩) k k, .slice (some ⟨g2, 0, none⟩) k k] 101) = W5 := ⟨_, rfl⟩
        have hN5 : W5.heap[S5]? = some (.cells #[.slice (some ⟨g1, 0, none⟩) k k, .slice (some ⟨g2, 0, none⟩) k k] 101) := by rw [← hW5, ← hS5]; exact heap_alloc_new _ _
        have x50 := heap_cell hN5 0
        have x51 := heap_cell hN5 1
        simp only [List.getElem?_toArray, List.getElem?_cons_zero, List.getElem?_cons_succ] at x50 x51
        have hb5 : Below wo.heap.size wo W5 := by rw [← hW5]; exact (Below.refl _ _).alloc (Nat.le_refl _) _
        have l05 : g0 < S5 := by rw [← hS5]; exact HST.out.o0.lt.2
        rw [hW5] at ST5
        have HS5 := Lib.hid ST5
        clear hN5 hb5 ST5 HST
        go_wp2_with fail
        refine wp_loop_rounds 3 ?_
        rw [rounds_succ]
        go_wp2_with fail
        rw [rounds_succ]
        go_wp2_with fail
        rw [rounds_succ]
        go_wp2_with fail
        (with_reducible refine (clip_str (some ⟨g0, 0, none⟩) n cap0 _ hcp2 hcp1).mono ?_)
        rintro e w9 ⟨rfl, rfl⟩
        go_wp2_with fail
        go_ret2
        exact .inl ⟨hC.out, g0, rfl, HS5.out.o0.reads, HS5.out.bel⟩
end Go.Proofs.Ythnbhhfbmkklmaa
