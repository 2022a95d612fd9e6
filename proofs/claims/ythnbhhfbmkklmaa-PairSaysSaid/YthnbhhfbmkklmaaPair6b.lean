/- pair.Mend with one lost. (Printed by wip/tools/gen_pair6.py.) -/
import Derived.Test.YthnbhhfbmkklmaaPair6
namespace Go.Proofs.Ythnbhhfbmkklmaa
open Go.RowKit

set_option maxRecDepth 100000 in
set_option maxHeartbeats 16000000 in
theorem pair_Mend1 (ss : List ByteArray) (n m : Nat) (ao : Option Addr) (cap : Nat) (p q : ByteArray) (g : Nat) (hg : g < n) (lo : Option Addr) (lc : Nat) (w : World) (h0 : StrsIn w ao n ss) (hr : Right ss n m)
    (hp : p.size = m) (hq : q.size = m) (hLr : Reads w lo (([(g : Int)] : List Int).map (Value.int .i64)))
    (CL : Calls Try.prog 53 #[.slice ao n cap, .string p, .string q, .slice lo 1 lc] w fun e w' => e = .returned (.int .i64 0) ∧ w = w') :
    Calls Try.prog 14 #[.slice ao n cap, .string p, .string q, .slice lo 1 lc] w (MendP (cond1 ss n p q g) (one1 ss n m p g) m n w) := by
  have n1 := hr.n1
  have n10 := hr.n10
  have m64 := hr.m64
  have HR := Lib.hid hr
  have HLR := Lib.hid hLr
  have HCL := Lib.hid CL
  have HS4 := Lib.hid h0.2.2.2
  have hsl : Hid (ss.length = n) := Lib.hid hr.len
  have MK := mk_u8 m (by omega)
  obtain ⟨b0, o0, s0, rfl, _, _⟩ := head_cell hr h0.2.2.2
  have CC := Lib.hid (clone_str n (ss.map Value.string) (some ⟨b0, o0, none⟩) cap w.heap.size w (by omega) (by rw [List.length_map]; exact hr.len) (fun h => by cases h) HS4 (Lib.hid one_str) (Nat.le_refl _))
  clear CL hr hLr h0
  obtain ⟨lb, lof, rfl, lc0⟩ := lost_at HLR.out (i := 0) (a := (g : Int)) rfl
  rw [Nat.add_zero] at lc0
  go_enter Try.func14, Try.ntmps14
  go_wp2_with fail
  (with_reducible refine HCL.out.mono ?_)
  rintro e w1 ⟨rfl, rfl⟩
  go_wp2_with fail
  (with_reducible refine CC.out.mono ?_)
  rintro e w2 ⟨v2, rfl, hO2, hb2⟩
  rw [strRow, hsl.out] at hO2
  obtain ⟨g0, cap0, rfl⟩ := own_form hO2 (fun h => by have := congrArg List.length h; rw [rowF_length] at this; simp at this; omega)
  have hcp := own_cap6 hO2
  have O0 : Own w2 w.heap.size 9 g0 n cap0 (fun j => .string (sAt ss j)) := hO2
  have HO0 := Lib.hid O0
  have HB2 := Lib.hid hb2
  have CS := Lib.hid (pair_sums ss n m (some ⟨b0, o0, none⟩) cap [(g : Int)] 1 (some ⟨lb, lof, none⟩) lc w2 HR.out (Lib.hid (HS4.out.below hb2)) rfl (by omega) (Lib.hid (HLR.out.below hb2)))
  clear hO2 O0 hb2 CC HCL
  obtain ⟨hcp1, hcp2⟩ := hcp
  unfold maxLen at hcp2
  go_wp2_with fail
  (with_reducible refine CS.out.mono ?_)
  rintro e w3 ⟨gx, gy, rfl, OX, OY, hxy, hb3⟩
  have HST : Hid (MSt ss n m [(g : Int)] gx gy g0 cap0 (sAt ss) w w3) := Lib.hid ⟨own_mono OX HB2.out.size, own_mono OY HB2.out.size, HO0.out.below hb3, HB2.out.trans (hb3.mono HB2.out.size)⟩
  have hX0 : Hid (gx ≠ g0 ∧ gy ≠ g0) := Lib.hid (by
    have l1 := OX.lt
    have l2 := OY.lt
    have l3 := HO0.out.lt
    exact ⟨by omega, by omega⟩)
  clear OX OY hxy hb3 CS HO0
  go_wp2_with fail
  go_region
  · have OA := own_A' w.heap.size m w3 HST.out.bel.size (by omega)
    have OB := own_B' w.heap.size m w3 HST.out.bel.size (by omega)
    have ST4 := HST.out.below (show Below w3.heap.size w3 (((w3.alloc (.cells (rowF m (fun _ => Value.int .u8 0)).toArray 5)).alloc (.cells (rowF m (fun _ => Value.int .u8 0)).toArray 5)).drew) from below_drew1 (((Below.refl _ w3).alloc (Nat.le_refl _) _).alloc (by simp) _))
    obtain ⟨W4, hW4⟩ : ∃ W4, ((w3.alloc (.cells (rowF m (fun _ => Value.int .u8 0)).toArray 5)).alloc (.cells (rowF m (fun _ => Value.int .u8 0)).toArray 5)).drew = W4 := ⟨_, rfl⟩
    rw [hW4] at OA OB ST4 ⊢
    obtain ⟨g1, hg1⟩ : ∃ g, w3.heap.size = g := ⟨_, rfl⟩
    obtain ⟨g2, hg2⟩ : ∃ g, w3.heap.size + 1 = g := ⟨_, rfl⟩
    have lx := HST.out.ox.lt
    have ly := HST.out.oy.lt
    have l0 := HST.out.o0.lt
    have hne : Hid (gx ≠ g1 ∧ gy ≠ g1 ∧ g0 ≠ g1 ∧ gx ≠ g2 ∧ gy ≠ g2 ∧ g0 ≠ g2 ∧ g1 ≠ g2 ∧ w.heap.size ≤ g1 ∧ w.heap.size ≤ g2) := Lib.hid (by omega)
    have O1 : Hid (Own W4 w.heap.size 5 g1 m m (fun j => .int .u8 ((if j < 0 then mA ss n p [(g : Int)] j else 0 : Nat) : Int))) := Lib.hid (by rw [← hg1]; first | exact OA | exact OB)
    have O2 : Hid (Own W4 w.heap.size 5 g2 m m (fun j => .int .u8 ((if j < 0 then 0 else 0 : Nat) : Int))) := Lib.hid (by rw [← hg2]; first | exact OA | exact OB)
    have HS4' := Lib.hid ST4
    try rw [hg2]
    try rw [hg1]
    clear OA OB ST4 hW4 hg1 hg2 lx ly l0 HST MK
    go_wp2_with fail
    go_loopw [49] (fun vi wr => ∃ k : Nat, vi = .int .i64 k ∧ k ≤ m ∧ Hid (MSt ss n m [(g : Int)] gx gy g0 cap0 (sAt ss) w wr) ∧ Hid (∀ j, j < k → cond1 ss n p q g j) ∧ Hid (Own wr w.heap.size 5 g1 m m (fun j => .int .u8 ((if j < k then mA ss n p [(g : Int)] j else 0 : Nat) : Int)))) (fun vi _ => m - (intOf vi).toNat)
    case atStart => exact ⟨0, rfl, by omega, HS4', Lib.hid (fun j hj => by omega), O1⟩
    case round =>
      clear HS4' O1 O2
      obtain ⟨k, rfl, hk, HST, hC, O1⟩ := hrel
      obtain ⟨wo, rfl⟩ : ∃ wo, wo = wr := ⟨_, rfl⟩
      by_cases hkm : k < m
      · obtain ⟨X, hX⟩ : ∃ x, xorN n (left [(g : Int)] (colP ss k)) = x := ⟨_, rfl⟩
        obtain ⟨Y, hY⟩ : ∃ x, xorN n (left [(g : Int)] (wtd (colP ss k))) = x := ⟨_, rfl⟩
        have hXb : X < 256 := by rw [← hX]; exact lsum_lt _ _ _ _
        have hYb : Y < 256 := by rw [← hY]; exact lwsum_lt _ _ _ _
        have cx := HST.out.ox.cell hkm
        have cy := HST.out.oy.cell hkm
        rw [hX] at cx
        rw [hY] at cy
        have kp : k < p.size := by omega
        have kq : k < q.size := by omega
        have bp := byteS_get p k kp
        have bq := byteS_get q k kq
        obtain ⟨a, ha⟩ : ∃ a, mA ss n p [(g : Int)] k = a := ⟨_, rfl⟩
        obtain ⟨b, hb⟩ : ∃ b, mB ss n q [(g : Int)] k = b := ⟨_, rfl⟩
        have hab : a < 256 := by rw [← ha]; exact mA_lt _ _ _ _ _
        have hbb : b < 256 := by rw [← hb]; exact mB_lt _ _ _ _ _
        have ea : bits .xor .u8 (X : Int) (p[k].toNat : Int) = (a : Int) := by rw [bp, u8_xor_nat X _ hXb (byteS_lt _ _), ← ha, ← hX]; rfl
        have eb : bits .xor .u8 (Y : Int) (q[k].toNat : Int) = (b : Int) := by rw [bq, u8_xor_nat Y _ hYb (byteS_lt _ _), ← hb, ← hY]; rfl
        have HA := Lib.hid ha
        have HB := Lib.hid hb
        clear hX hY bp bq ha hb
        have i0 : (0 : Int) ≤ (k : Int) := by omega
        have i1 : (k : Int) < (m : Int) := by omega
        have i2 : (k : Int) < (p.size : Int) := by omega
        have i3 : (k : Int) < (q.size : Int) := by omega
        have HP := Lib.hid hp
        have HQ := Lib.hid hq
        clear hp hq
        go_wp2_with fail
        go_quiet (fail)
        obtain ⟨G, hG⟩ : ∃ G, gpow 2 g = G := ⟨_, rfl⟩
        have hGb : G < 256 := by rw [← hG]; exact gpow_lt _
        have lc9 := (HST.out.bel.cell (World.block_lt_of_cell? w _ lc0)).trans lc0
        have CW := Lib.hid (fun X => pair_weight g X (by omega))
        rw [hG] at CW
        obtain ⟨t, ht⟩ : ∃ t, gmul a G = t := ⟨_, rfl⟩
        have htb : t < 256 := by rw [← ht]; exact gmul_lt hab
        have CM := Lib.hid (fun X => field_Mul a G X hab hGb)
        rw [ht] at CM
        have HG := Lib.hid (And.intro hG ht)
        have p1 := O1.out.cell hkm
        have f1 := O1.out.frozen k
        simp only [Nat.lt_irrefl, if_false] at p1
        clear hG ht
        by_cases htb0 : t = b
        · have tt : ((t : Int) == (b : Int)) = true := by simp [htb0]
          have ttn : ((t : Int) != (b : Int)) = false := by simp [htb0]
          have hC2 : Hid (∀ j, j < k + 1 → cond1 ss n p q g j) := Lib.hid (fun j hj => by
            by_cases hj2 : j = k
            · subst hj2
              show gmul _ _ = _
              rw [HA.out, HB.out, HG.out.1, HG.out.2]; exact htb0
            · exact hC.out j (by omega))
          have A1 := O1.out.store k (.int .u8 (a : Int))
          have S2 := Lib.hid (HST.out.kept A1.2 hne.out.1 hne.out.2.1 hne.out.2.2.1 hne.out.2.2.2.2.2.2.2.1)
          have O3 : Hid (Own (wo.setCell ⟨g1, k, none⟩ (.int .u8 (a : Int))) w.heap.size 5 g1 m m (fun j => .int .u8 ((if j < k + 1 then mA ss n p [(g : Int)] j else 0 : Nat) : Int))) := Lib.hid (A1.1.congr fun j _ => upd_row (F := fun j => mA ss n p [(g : Int)] j) (G := fun _ => 0) HA.out j)
          have HT := Lib.hid htb0
          clear htb0 A1
          go_wp2_with (first
            | (go_at_call 55; (with_reducible refine (CW.out _).mono ?_); rintro e w5 ⟨rfl, rfl⟩)
            | (go_at_call 54; (with_reducible refine (CM.out _).mono ?_); rintro e w6 ⟨rfl, rfl⟩)
            | fail)
          go_roundw
          case rel => exact ⟨k + 1, by go_num, by omega, Lib.hid (S2.out.below (below_dr _ _ _)), hC2, Lib.hid (O3.out.drewN _)⟩
          case measure => simp [intOf]; omega
        · have tt : ((t : Int) == (b : Int)) = false := by simp; omega
          have ttn : ((t : Int) != (b : Int)) = true := by simp; omega
          have hN : Hid (¬ ∀ j, j < m → cond1 ss n p q g j) := Lib.hid (fun h => htb0 (by
            have h2 : gmul _ _ = _ := h k hkm
            rw [HA.out, HB.out, HG.out.1, HG.out.2] at h2; exact h2))
          have HT := Lib.hid htb0
          clear htb0
          go_wp2_with (first
            | (go_at_call 55; (with_reducible refine (CW.out _).mono ?_); rintro e w5 ⟨rfl, rfl⟩)
            | (go_at_call 54; (with_reducible refine (CM.out _).mono ?_); rintro e w6 ⟨rfl, rfl⟩)
            | fail)
          go_ret2
          exact .inr ⟨hN.out, rfl, (HST.out.below (below_dr _ _ _)).bel⟩
      · obtain rfl : k = m := by omega
        obtain ⟨S5, hS5⟩ : ∃ S, wo.heap.size = S := ⟨_, rfl⟩
        have ST5 := HST.out.below ((Below.refl wo.heap.size wo).alloc (Nat.le_refl _) (.cells #[.slice (some ⟨g1, 0, none⟩) k k, .slice (some ⟨g2, 0, none⟩) k k] 101))
        obtain ⟨W5, hW5⟩ : ∃ W5, wo.alloc (.cells #[.slice (some ⟨g1, 0, none⟩) k k, .slice (some ⟨g2, 0, none⟩) k k] 101) = W5 := ⟨_, rfl⟩
        have hN5 : W5.heap[S5]? = some (.cells #[.slice (some ⟨g1, 0, none⟩) k k, .slice (some ⟨g2, 0, none⟩) k k] 101) := by rw [← hW5, ← hS5]; exact heap_alloc_new _ _
        have x50 := heap_cell hN5 0
        have x51 := heap_cell hN5 1
        simp only [List.getElem?_toArray, List.getElem?_cons_zero, List.getElem?_cons_succ] at x50 x51
        have hb5 : Below wo.heap.size wo W5 := by rw [← hW5]; exact (Below.refl _ _).alloc (Nat.le_refl _) _
        have l05 : g0 < S5 := by rw [← hS5]; exact HST.out.o0.lt.2
        rw [hW5] at ST5
        have O15 := O1.out.below hb5
        have R1 : Reads W5 (some ⟨g1, 0, none⟩) (rowF k fun j => .int .u8 (mA ss n p [(g : Int)] j : Nat)) := (O15.congr fun j hj => by rw [if_pos hj]).reads
        have y1 := conv_back k (fun j => mA ss n p [(g : Int)] j) (some ⟨g1, 0, none⟩) k W5 (fun j _ => mA_lt _ _ _ _ _) (fun h => by cases h) R1
        have y1' := conv_back k (fun j => mA ss n p [(g : Int)] j) (some ⟨g1, 0, none⟩) k W5.drew (fun j _ => mA_lt _ _ _ _ _) (fun h => by cases h) R1
        obtain ⟨B1, hB1⟩ : ∃ B, bytesOf k (fun j => mA ss n p [(g : Int)] j) = B := ⟨_, rfl⟩
        rw [hB1] at y1 y1'
        have lc5 := (ST5.bel.cell (World.block_lt_of_cell? w _ lc0)).trans lc0
        have z1 := ST5.o0.cell hg
        have zf1 := ST5.o0.frozen g
        have A6 := ST5.o0.store g (.string B1)
        have j0 : (0 : Int) ≤ (g : Int) := by omega
        have j1 : (g : Int) < (n : Int) := by omega
        have O6 : Own (W5.setCell ⟨g0, g, none⟩ (.string B1)) w.heap.size 9 g0 n cap0 (fun j => .string (if j = g then B1 else sAt ss j)) := A6.1.congr fun j _ => by split <;> rfl
        have bl6 : Below w.heap.size w (W5.setCell ⟨g0, g, none⟩ (.string B1)) := ST5.o0.belowStore ST5.bel (Nat.le_refl _) g _
        have x61 : (W5.setCell ⟨g0, g, none⟩ (.string B1)).cell? ⟨S5, 1, none⟩ = some (.slice (some ⟨g2, 0, none⟩) k k) := by rw [World.cell?_setCell_far _ _ _ _ (by show g0 ≠ S5; omega)]; exact x51
        have HF1 := Lib.hid hB1
        have HO6 := Lib.hid O6
        have HB6 := Lib.hid bl6
        clear hB1 A6 R1 O15 hN5 hb5 ST5 HST O1 O6 bl6
        go_wp2_with fail
        refine wp_loop_rounds 3 ?_
        rw [rounds_succ]
        go_wp2_with fail
        go_region
        go_wp2_with fail
        rw [rounds_succ]
        go_wp2_with fail
        rw [rounds_succ]
        go_wp2_with fail
        (with_reducible refine (clip_str (some ⟨g0, 0, none⟩) n cap0 _ hcp2 hcp1).mono ?_)
        rintro e w9 ⟨rfl, rfl⟩
        go_wp2_with fail
        go_ret2
        refine .inl ⟨hC.out, g0, rfl, ?_, below_drew1 HB6.out⟩
        have hF : one1 ss n k p g = fun j => if j = g then B1 else sAt ss j := by funext j; unfold one1; rw [← HF1.out]
        rw [hF]
        exact HO6.out.reads
  · have OA := own_A' w.heap.size m w3 HST.out.bel.size (by omega)
    have OB := own_B' w.heap.size m w3 HST.out.bel.size (by omega)
    have ST4 := HST.out.below (show Below w3.heap.size w3 (((w3.alloc (.cells (rowF m (fun _ => Value.int .u8 0)).toArray 5)).alloc (.cells (rowF m (fun _ => Value.int .u8 0)).toArray 5)).drew) from below_drew1 (((Below.refl _ w3).alloc (Nat.le_refl _) _).alloc (by simp) _))
    obtain ⟨W4, hW4⟩ : ∃ W4, ((w3.alloc (.cells (rowF m (fun _ => Value.int .u8 0)).toArray 5)).alloc (.cells (rowF m (fun _ => Value.int .u8 0)).toArray 5)).drew = W4 := ⟨_, rfl⟩
    rw [hW4] at OA OB ST4 ⊢
    obtain ⟨g1, hg1⟩ : ∃ g, w3.heap.size + 1 = g := ⟨_, rfl⟩
    obtain ⟨g2, hg2⟩ : ∃ g, w3.heap.size = g := ⟨_, rfl⟩
    have lx := HST.out.ox.lt
    have ly := HST.out.oy.lt
    have l0 := HST.out.o0.lt
    have hne : Hid (gx ≠ g1 ∧ gy ≠ g1 ∧ g0 ≠ g1 ∧ gx ≠ g2 ∧ gy ≠ g2 ∧ g0 ≠ g2 ∧ g1 ≠ g2 ∧ w.heap.size ≤ g1 ∧ w.heap.size ≤ g2) := Lib.hid (by omega)
    have O1 : Hid (Own W4 w.heap.size 5 g1 m m (fun j => .int .u8 ((if j < 0 then mA ss n p [(g : Int)] j else 0 : Nat) : Int))) := Lib.hid (by rw [← hg1]; first | exact OA | exact OB)
    have O2 : Hid (Own W4 w.heap.size 5 g2 m m (fun j => .int .u8 ((if j < 0 then 0 else 0 : Nat) : Int))) := Lib.hid (by rw [← hg2]; first | exact OA | exact OB)
    have HS4' := Lib.hid ST4
    try rw [hg1]
    try rw [hg2]
    clear OA OB ST4 hW4 hg1 hg2 lx ly l0 HST MK
    go_wp2_with fail
    go_loopw [49] (fun vi wr => ∃ k : Nat, vi = .int .i64 k ∧ k ≤ m ∧ Hid (MSt ss n m [(g : Int)] gx gy g0 cap0 (sAt ss) w wr) ∧ Hid (∀ j, j < k → cond1 ss n p q g j) ∧ Hid (Own wr w.heap.size 5 g1 m m (fun j => .int .u8 ((if j < k then mA ss n p [(g : Int)] j else 0 : Nat) : Int)))) (fun vi _ => m - (intOf vi).toNat)
    case atStart => exact ⟨0, rfl, by omega, HS4', Lib.hid (fun j hj => by omega), O1⟩
    case round =>
      clear HS4' O1 O2
      obtain ⟨k, rfl, hk, HST, hC, O1⟩ := hrel
      obtain ⟨wo, rfl⟩ : ∃ wo, wo = wr := ⟨_, rfl⟩
      by_cases hkm : k < m
      · obtain ⟨X, hX⟩ : ∃ x, xorN n (left [(g : Int)] (colP ss k)) = x := ⟨_, rfl⟩
        obtain ⟨Y, hY⟩ : ∃ x, xorN n (left [(g : Int)] (wtd (colP ss k))) = x := ⟨_, rfl⟩
        have hXb : X < 256 := by rw [← hX]; exact lsum_lt _ _ _ _
        have hYb : Y < 256 := by rw [← hY]; exact lwsum_lt _ _ _ _
        have cx := HST.out.ox.cell hkm
        have cy := HST.out.oy.cell hkm
        rw [hX] at cx
        rw [hY] at cy
        have kp : k < p.size := by omega
        have kq : k < q.size := by omega
        have bp := byteS_get p k kp
        have bq := byteS_get q k kq
        obtain ⟨a, ha⟩ : ∃ a, mA ss n p [(g : Int)] k = a := ⟨_, rfl⟩
        obtain ⟨b, hb⟩ : ∃ b, mB ss n q [(g : Int)] k = b := ⟨_, rfl⟩
        have hab : a < 256 := by rw [← ha]; exact mA_lt _ _ _ _ _
        have hbb : b < 256 := by rw [← hb]; exact mB_lt _ _ _ _ _
        have ea : bits .xor .u8 (X : Int) (p[k].toNat : Int) = (a : Int) := by rw [bp, u8_xor_nat X _ hXb (byteS_lt _ _), ← ha, ← hX]; rfl
        have eb : bits .xor .u8 (Y : Int) (q[k].toNat : Int) = (b : Int) := by rw [bq, u8_xor_nat Y _ hYb (byteS_lt _ _), ← hb, ← hY]; rfl
        have HA := Lib.hid ha
        have HB := Lib.hid hb
        clear hX hY bp bq ha hb
        have i0 : (0 : Int) ≤ (k : Int) := by omega
        have i1 : (k : Int) < (m : Int) := by omega
        have i2 : (k : Int) < (p.size : Int) := by omega
        have i3 : (k : Int) < (q.size : Int) := by omega
        have HP := Lib.hid hp
        have HQ := Lib.hid hq
        clear hp hq
        go_wp2_with fail
        go_quiet (fail)
        obtain ⟨G, hG⟩ : ∃ G, gpow 2 g = G := ⟨_, rfl⟩
        have hGb : G < 256 := by rw [← hG]; exact gpow_lt _
        have lc9 := (HST.out.bel.cell (World.block_lt_of_cell? w _ lc0)).trans lc0
        have CW := Lib.hid (fun X => pair_weight g X (by omega))
        rw [hG] at CW
        obtain ⟨t, ht⟩ : ∃ t, gmul a G = t := ⟨_, rfl⟩
        have htb : t < 256 := by rw [← ht]; exact gmul_lt hab
        have CM := Lib.hid (fun X => field_Mul a G X hab hGb)
        rw [ht] at CM
        have HG := Lib.hid (And.intro hG ht)
        have p1 := O1.out.cell hkm
        have f1 := O1.out.frozen k
        simp only [Nat.lt_irrefl, if_false] at p1
        clear hG ht
        by_cases htb0 : t = b
        · have tt : ((t : Int) == (b : Int)) = true := by simp [htb0]
          have ttn : ((t : Int) != (b : Int)) = false := by simp [htb0]
          have hC2 : Hid (∀ j, j < k + 1 → cond1 ss n p q g j) := Lib.hid (fun j hj => by
            by_cases hj2 : j = k
            · subst hj2
              show gmul _ _ = _
              rw [HA.out, HB.out, HG.out.1, HG.out.2]; exact htb0
            · exact hC.out j (by omega))
          have A1 := O1.out.store k (.int .u8 (a : Int))
          have S2 := Lib.hid (HST.out.kept A1.2 hne.out.1 hne.out.2.1 hne.out.2.2.1 hne.out.2.2.2.2.2.2.2.1)
          have O3 : Hid (Own (wo.setCell ⟨g1, k, none⟩ (.int .u8 (a : Int))) w.heap.size 5 g1 m m (fun j => .int .u8 ((if j < k + 1 then mA ss n p [(g : Int)] j else 0 : Nat) : Int))) := Lib.hid (A1.1.congr fun j _ => upd_row (F := fun j => mA ss n p [(g : Int)] j) (G := fun _ => 0) HA.out j)
          have HT := Lib.hid htb0
          clear htb0 A1
          go_wp2_with (first
            | (go_at_call 55; (with_reducible refine (CW.out _).mono ?_); rintro e w5 ⟨rfl, rfl⟩)
            | (go_at_call 54; (with_reducible refine (CM.out _).mono ?_); rintro e w6 ⟨rfl, rfl⟩)
            | fail)
          go_roundw
          case rel => exact ⟨k + 1, by go_num, by omega, Lib.hid (S2.out.below (below_dr _ _ _)), hC2, Lib.hid (O3.out.drewN _)⟩
          case measure => simp [intOf]; omega
        · have tt : ((t : Int) == (b : Int)) = false := by simp; omega
          have ttn : ((t : Int) != (b : Int)) = true := by simp; omega
          have hN : Hid (¬ ∀ j, j < m → cond1 ss n p q g j) := Lib.hid (fun h => htb0 (by
            have h2 : gmul _ _ = _ := h k hkm
            rw [HA.out, HB.out, HG.out.1, HG.out.2] at h2; exact h2))
          have HT := Lib.hid htb0
          clear htb0
          go_wp2_with (first
            | (go_at_call 55; (with_reducible refine (CW.out _).mono ?_); rintro e w5 ⟨rfl, rfl⟩)
            | (go_at_call 54; (with_reducible refine (CM.out _).mono ?_); rintro e w6 ⟨rfl, rfl⟩)
            | fail)
          go_ret2
          exact .inr ⟨hN.out, rfl, (HST.out.below (below_dr _ _ _)).bel⟩
      · obtain rfl : k = m := by omega
        obtain ⟨S5, hS5⟩ : ∃ S, wo.heap.size = S := ⟨_, rfl⟩
        have ST5 := HST.out.below ((Below.refl wo.heap.size wo).alloc (Nat.le_refl _) (.cells #[.slice (some ⟨g1, 0, none⟩) k k, .slice (some ⟨g2, 0, none⟩) k k] 101))
        obtain ⟨W5, hW5⟩ : ∃ W5, wo.alloc (.cells #[.slice (some ⟨g1, 0, none⟩) k k, .slice (some ⟨g2, 0, none⟩) k k] 101) = W5 := ⟨_, rfl⟩
        have hN5 : W5.heap[S5]? = some (.cells #[.slice (some ⟨g1, 0, none⟩) k k, .slice (some ⟨g2, 0, none⟩) k k] 101) := by rw [← hW5, ← hS5]; exact heap_alloc_new _ _
        have x50 := heap_cell hN5 0
        have x51 := heap_cell hN5 1
        simp only [List.getElem?_toArray, List.getElem?_cons_zero, List.getElem?_cons_succ] at x50 x51
        have hb5 : Below wo.heap.size wo W5 := by rw [← hW5]; exact (Below.refl _ _).alloc (Nat.le_refl _) _
        have l05 : g0 < S5 := by rw [← hS5]; exact HST.out.o0.lt.2
        rw [hW5] at ST5
        have O15 := O1.out.below hb5
        have R1 : Reads W5 (some ⟨g1, 0, none⟩) (rowF k fun j => .int .u8 (mA ss n p [(g : Int)] j : Nat)) := (O15.congr fun j hj => by rw [if_pos hj]).reads
        have y1 := conv_back k (fun j => mA ss n p [(g : Int)] j) (some ⟨g1, 0, none⟩) k W5 (fun j _ => mA_lt _ _ _ _ _) (fun h => by cases h) R1
        have y1' := conv_back k (fun j => mA ss n p [(g : Int)] j) (some ⟨g1, 0, none⟩) k W5.drew (fun j _ => mA_lt _ _ _ _ _) (fun h => by cases h) R1
        obtain ⟨B1, hB1⟩ : ∃ B, bytesOf k (fun j => mA ss n p [(g : Int)] j) = B := ⟨_, rfl⟩
        rw [hB1] at y1 y1'
        have lc5 := (ST5.bel.cell (World.block_lt_of_cell? w _ lc0)).trans lc0
        have z1 := ST5.o0.cell hg
        have zf1 := ST5.o0.frozen g
        have A6 := ST5.o0.store g (.string B1)
        have j0 : (0 : Int) ≤ (g : Int) := by omega
        have j1 : (g : Int) < (n : Int) := by omega
        have O6 : Own (W5.setCell ⟨g0, g, none⟩ (.string B1)) w.heap.size 9 g0 n cap0 (fun j => .string (if j = g then B1 else sAt ss j)) := A6.1.congr fun j _ => by split <;> rfl
        have bl6 : Below w.heap.size w (W5.setCell ⟨g0, g, none⟩ (.string B1)) := ST5.o0.belowStore ST5.bel (Nat.le_refl _) g _
        have x61 : (W5.setCell ⟨g0, g, none⟩ (.string B1)).cell? ⟨S5, 1, none⟩ = some (.slice (some ⟨g2, 0, none⟩) k k) := by rw [World.cell?_setCell_far _ _ _ _ (by show g0 ≠ S5; omega)]; exact x51
        have HF1 := Lib.hid hB1
        have HO6 := Lib.hid O6
        have HB6 := Lib.hid bl6
        clear hB1 A6 R1 O15 hN5 hb5 ST5 HST O1 O6 bl6
        go_wp2_with fail
        refine wp_loop_rounds 3 ?_
        rw [rounds_succ]
        go_wp2_with fail
        go_region
        go_wp2_with fail
        rw [rounds_succ]
        go_wp2_with fail
        rw [rounds_succ]
        go_wp2_with fail
        (with_reducible refine (clip_str (some ⟨g0, 0, none⟩) n cap0 _ hcp2 hcp1).mono ?_)
        rintro e w9 ⟨rfl, rfl⟩
        go_wp2_with fail
        go_ret2
        refine .inl ⟨hC.out, g0, rfl, ?_, below_drew1 HB6.out⟩
        have hF : one1 ss n k p g = fun j => if j = g then B1 else sAt ss j := by funext j; unfold one1; rw [← HF1.out]
        rw [hF]
        exact HO6.out.reads
end Go.Proofs.Ythnbhhfbmkklmaa
