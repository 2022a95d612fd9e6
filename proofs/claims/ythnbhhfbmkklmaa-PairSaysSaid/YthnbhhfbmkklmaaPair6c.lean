/- pair.Mend with two lost. (Printed by wip/tools/gen_pair6.py.) -/
import Derived.Test.YthnbhhfbmkklmaaPair6
namespace Go.Proofs.Ythnbhhfbmkklmaa
open Go.RowKit

set_option maxRecDepth 100000 in
set_option maxHeartbeats 16000000 in
theorem pair_Mend2 (ss : List ByteArray) (n m : Nat) (ao : Option Addr) (cap : Nat) (p q : ByteArray) (g h : Nat) (hg : g < n) (hh : h < n) (hgh : g ≠ h) (lo : Option Addr) (lc : Nat) (w : World) (h0 : StrsIn w ao n ss) (hr : Right ss n m)
    (hp : p.size = m) (hq : q.size = m) (hLr : Reads w lo (([(g : Int), (h : Int)] : List Int).map (Value.int .i64)))
    (CL : Calls Try.prog 53 #[.slice ao n cap, .string p, .string q, .slice lo 2 lc] w fun e w' => e = .returned (.int .i64 0) ∧ w = w') :
    Calls Try.prog 14 #[.slice ao n cap, .string p, .string q, .slice lo 2 lc] w (MendOk (two2 ss n m p q g h) n w) := by
  have n1 := hr.n1
  have n10 := hr.n10
  have m64 := hr.m64
  have HR := Lib.hid hr
  have HLR := Lib.hid hLr
  have HCL := Lib.hid CL
  have HS4 := Lib.hid h0.2.2.2
  have hsl : Hid (ss.length = n) := Lib.hid hr.len
  have MK := mk_u8 m (by omega)
  obtain ⟨b0, o0, s0, rfl, _, _⟩ := head_cell hr h0.2.2.2
  have CC := Lib.hid (clone_str n (ss.map Value.string) (some ⟨b0, o0, none⟩) cap w.heap.size w (by omega) (by rw [List.length_map]; exact hr.len) (fun h => by cases h) HS4 (Lib.hid one_str) (Nat.le_refl _))
  clear CL hr hLr h0
  obtain ⟨lb, lof, rfl, lc0⟩ := lost_at HLR.out (i := 0) (a := (g : Int)) rfl
  rw [Nat.add_zero] at lc0
  obtain ⟨lb1, lof1, hla, lc1⟩ := lost_at HLR.out (i := 1) (a := (h : Int)) rfl
  cases hla
  go_enter Try.func14, Try.ntmps14
  go_wp2_with fail
  (with_reducible refine HCL.out.mono ?_)
  rintro e w1 ⟨rfl, rfl⟩
  go_wp2_with fail
  (with_reducible refine CC.out.mono ?_)
  rintro e w2 ⟨v2, rfl, hO2, hb2⟩
  rw [strRow, hsl.out] at hO2
  obtain ⟨g0, cap0, rfl⟩ := own_form hO2 (fun h => by have := congrArg List.length h; rw [rowF_length] at this; simp at this; omega)
  have hcp := own_cap6 hO2
  have O0 : Own w2 w.heap.size 9 g0 n cap0 (fun j => .string (sAt ss j)) := hO2
  have HO0 := Lib.hid O0
  have HB2 := Lib.hid hb2
  have CS := Lib.hid (pair_sums ss n m (some ⟨b0, o0, none⟩) cap [(g : Int), (h : Int)] 2 (some ⟨lb, lof, none⟩) lc w2 HR.out (Lib.hid (HS4.out.below hb2)) rfl (by omega) (Lib.hid (HLR.out.below hb2)))
  clear hO2 O0 hb2 CC HCL
  obtain ⟨hcp1, hcp2⟩ := hcp
  unfold maxLen at hcp2
  go_wp2_with fail
  (with_reducible refine CS.out.mono ?_)
  rintro e w3 ⟨gx, gy, rfl, OX, OY, hxy, hb3⟩
  have HST : Hid (MSt ss n m [(g : Int), (h : Int)] gx gy g0 cap0 (sAt ss) w w3) := Lib.hid ⟨own_mono OX HB2.out.size, own_mono OY HB2.out.size, HO0.out.below hb3, HB2.out.trans (hb3.mono HB2.out.size)⟩
  have hX0 : Hid (gx ≠ g0 ∧ gy ≠ g0) := Lib.hid (by
    have l1 := OX.lt
    have l2 := OY.lt
    have l3 := HO0.out.lt
    exact ⟨by omega, by omega⟩)
  clear OX OY hxy hb3 CS HO0
  go_wp2_with fail
  go_region
  · have OA := own_A' w.heap.size m w3 HST.out.bel.size (by omega)
    have OB := own_B' w.heap.size m w3 HST.out.bel.size (by omega)
    have ST4 := HST.out.below (show Below w3.heap.size w3 (((w3.alloc (.cells (rowF m (fun _ => Value.int .u8 0)).toArray 5)).alloc (.cells (rowF m (fun _ => Value.int .u8 0)).toArray 5)).drew) from below_drew1 (((Below.refl _ w3).alloc (Nat.le_refl _) _).alloc (by simp) _))
    obtain ⟨W4, hW4⟩ : ∃ W4, ((w3.alloc (.cells (rowF m (fun _ => Value.int .u8 0)).toArray 5)).alloc (.cells (rowF m (fun _ => Value.int .u8 0)).toArray 5)).drew = W4 := ⟨_, rfl⟩
    rw [hW4] at OA OB ST4 ⊢
    obtain ⟨g1, hg1⟩ : ∃ g, w3.heap.size = g := ⟨_, rfl⟩
    obtain ⟨g2, hg2⟩ : ∃ g, w3.heap.size + 1 = g := ⟨_, rfl⟩
    have lx := HST.out.ox.lt
    have ly := HST.out.oy.lt
    have l0 := HST.out.o0.lt
    have hne : Hid (gx ≠ g1 ∧ gy ≠ g1 ∧ g0 ≠ g1 ∧ gx ≠ g2 ∧ gy ≠ g2 ∧ g0 ≠ g2 ∧ g1 ≠ g2 ∧ w.heap.size ≤ g1 ∧ w.heap.size ≤ g2) := Lib.hid (by omega)
    have O1 : Hid (Own W4 w.heap.size 5 g1 m m (fun j => .int .u8 ((if j < 0 then solU ss n p q g h j else 0 : Nat) : Int))) := Lib.hid (by rw [← hg1]; first | exact OA | exact OB)
    have O2 : Hid (Own W4 w.heap.size 5 g2 m m (fun j => .int .u8 ((if j < 0 then solV ss n p q g h j else 0 : Nat) : Int))) := Lib.hid (by rw [← hg2]; first | exact OA | exact OB)
    have HS4' := Lib.hid ST4
    try rw [hg2]
    try rw [hg1]
    clear OA OB ST4 hW4 hg1 hg2 lx ly l0 HST MK
    go_wp2_with fail
    go_loopw [49] (fun vi wr => ∃ k : Nat, vi = .int .i64 k ∧ k ≤ m ∧ Hid (MSt ss n m [(g : Int), (h : Int)] gx gy g0 cap0 (sAt ss) w wr) ∧ Hid (Own wr w.heap.size 5 g1 m m (fun j => .int .u8 ((if j < k then solU ss n p q g h j else 0 : Nat) : Int))) ∧ Hid (Own wr w.heap.size 5 g2 m m (fun j => .int .u8 ((if j < k then solV ss n p q g h j else 0 : Nat) : Int)))) (fun vi _ => m - (intOf vi).toNat)
    case atStart => exact ⟨0, rfl, by omega, HS4', O1, O2⟩
    case round =>
      clear HS4' O1 O2
      obtain ⟨k, rfl, hk, HST, O1, O2⟩ := hrel
      obtain ⟨wo, rfl⟩ : ∃ wo, wo = wr := ⟨_, rfl⟩
      by_cases hkm : k < m
      · obtain ⟨X, hX⟩ : ∃ x, xorN n (left [(g : Int), (h : Int)] (colP ss k)) = x := ⟨_, rfl⟩
        obtain ⟨Y, hY⟩ : ∃ x, xorN n (left [(g : Int), (h : Int)] (wtd (colP ss k))) = x := ⟨_, rfl⟩
        have hXb : X < 256 := by rw [← hX]; exact lsum_lt _ _ _ _
        have hYb : Y < 256 := by rw [← hY]; exact lwsum_lt _ _ _ _
        have cx := HST.out.ox.cell hkm
        have cy := HST.out.oy.cell hkm
        rw [hX] at cx
        rw [hY] at cy
        have kp : k < p.size := by omega
        have kq : k < q.size := by omega
        have bp := byteS_get p k kp
        have bq := byteS_get q k kq
        obtain ⟨a, ha⟩ : ∃ a, mA ss n p [(g : Int), (h : Int)] k = a := ⟨_, rfl⟩
        obtain ⟨b, hb⟩ : ∃ b, mB ss n q [(g : Int), (h : Int)] k = b := ⟨_, rfl⟩
        have hab : a < 256 := by rw [← ha]; exact mA_lt _ _ _ _ _
        have hbb : b < 256 := by rw [← hb]; exact mB_lt _ _ _ _ _
        have ea : bits .xor .u8 (X : Int) (p[k].toNat : Int) = (a : Int) := by rw [bp, u8_xor_nat X _ hXb (byteS_lt _ _), ← ha, ← hX]; rfl
        have eb : bits .xor .u8 (Y : Int) (q[k].toNat : Int) = (b : Int) := by rw [bq, u8_xor_nat Y _ hYb (byteS_lt _ _), ← hb, ← hY]; rfl
        have HA := Lib.hid ha
        have HB := Lib.hid hb
        clear hX hY bp bq ha hb
        have i0 : (0 : Int) ≤ (k : Int) := by omega
        have i1 : (k : Int) < (m : Int) := by omega
        have i2 : (k : Int) < (p.size : Int) := by omega
        have i3 : (k : Int) < (q.size : Int) := by omega
        have HP := Lib.hid hp
        have HQ := Lib.hid hq
        clear hp hq
        go_wp2_with fail
        go_quiet (fail)
        obtain ⟨G, hG⟩ : ∃ G, gpow 2 g = G := ⟨_, rfl⟩
        obtain ⟨H, hH⟩ : ∃ G, gpow 2 h = G := ⟨_, rfl⟩
        have hGb : G < 256 := by rw [← hG]; exact gpow_lt _
        have hHb : H < 256 := by rw [← hH]; exact gpow_lt _
        have hGH0 : G ^^^ H ≠ 0 := by rw [← hG, ← hH]; exact wt_ne ⟨g, by omega⟩ ⟨h, by omega⟩ (fun e => hgh (by simpa using e))
        have lc8 := (HST.out.bel.cell (World.block_lt_of_cell? w _ lc0)).trans lc0
        have lc9 := (HST.out.bel.cell (World.block_lt_of_cell? w _ lc1)).trans lc1
        have CW1 := Lib.hid (fun X => pair_weight_q g X (by omega))
        have CW2 := Lib.hid (fun X => pair_weight_q h X (by omega))
        rw [hG] at CW1
        rw [hH] at CW2
        obtain ⟨D, hD⟩ : ∃ D, G ^^^ H = D := ⟨_, rfl⟩
        have hDb : D < 256 := by rw [← hD]; exact xor_lt256 hGb hHb
        have eD : bits .xor .u8 (G : Int) (H : Int) = (D : Int) := by rw [u8_xor_nat G H hGb hHb, hD]
        rw [hD] at hGH0
        have CI := Lib.hid (fun X => field_Inv D X hDb hGH0)
        obtain ⟨I, hI⟩ : ∃ I, ginv D = I := ⟨_, rfl⟩
        rw [hI] at CI
        have hIb : I < 256 := by rw [← hI]; exact ginv_lt hDb
        obtain ⟨t, ht⟩ : ∃ t, gmul a H = t := ⟨_, rfl⟩
        have htb : t < 256 := by rw [← ht]; exact gmul_lt hab
        have CM := Lib.hid (fun X => field_Mul a H X hab hHb)
        rw [ht] at CM
        obtain ⟨z, hz⟩ : ∃ z, b ^^^ t = z := ⟨_, rfl⟩
        have hzb : z < 256 := by rw [← hz]; exact xor_lt256 hbb htb
        have ez : bits .xor .u8 (b : Int) (t : Int) = (z : Int) := by rw [u8_xor_nat b t hbb htb, hz]
        have CM2 := Lib.hid (fun X => field_Mul z I X hzb hIb)
        obtain ⟨U, hU⟩ : ∃ U, gmul z I = U := ⟨_, rfl⟩
        rw [hU] at CM2
        have hUb : U < 256 := by rw [← hU]; exact gmul_lt hzb
        obtain ⟨V, hV⟩ : ∃ V, a ^^^ U = V := ⟨_, rfl⟩
        have eV : bits .xor .u8 (a : Int) (U : Int) = (V : Int) := by rw [u8_xor_nat a U hab hUb, hV]
        have hsU : solU ss n p q g h k = U := by unfold solU; rw [HA.out, HB.out, hH, hG, ht, hz, hD, hI, hU]
        have hsV : solV ss n p q g h k = V := by unfold solV; rw [HA.out, hsU, hV]
        have p1 := O1.out.cell hkm
        have f1 := O1.out.frozen k
        have p2 := O2.out.cell hkm
        have f2 := O2.out.frozen k
        simp only [Nat.lt_irrefl, if_false] at p1 p2
        have KK : ∀ Q, ((wo.drewN Q).setCell ⟨g1, k, none⟩ (.int .u8 (U : Int))).cell? ⟨g1, k, none⟩ = some (.int .u8 (U : Int)) ∧ ((wo.drewN Q).setCell ⟨g1, k, none⟩ (.int .u8 (U : Int))).cell? ⟨g2, k, none⟩ = some (.int .u8 ((0 : Nat) : Int)) ∧ ((wo.drewN Q).setCell ⟨g1, k, none⟩ (.int .u8 (U : Int))).frozen? ⟨g2, k, none⟩ = false ∧
            MSt ss n m [(g : Int), (h : Int)] gx gy g0 cap0 (sAt ss) w (((wo.drewN Q).setCell ⟨g1, k, none⟩ (.int .u8 (U : Int))).setCell ⟨g2, k, none⟩ (.int .u8 (V : Int))) ∧
            Own (((wo.drewN Q).setCell ⟨g1, k, none⟩ (.int .u8 (U : Int))).setCell ⟨g2, k, none⟩ (.int .u8 (V : Int))) w.heap.size 5 g1 m m (fun j => .int .u8 ((if j < k + 1 then solU ss n p q g h j else 0 : Nat) : Int)) ∧
            Own (((wo.drewN Q).setCell ⟨g1, k, none⟩ (.int .u8 (U : Int))).setCell ⟨g2, k, none⟩ (.int .u8 (V : Int))) w.heap.size 5 g2 m m (fun j => .int .u8 ((if j < k + 1 then solV ss n p q g h j else 0 : Nat) : Int)) := by
          intro Q
          have A1 := (O1.out.drewN Q).store k (.int .u8 (U : Int))
          have S2 := (HST.out.below (below_dr _ _ Q)).kept A1.2 hne.out.1 hne.out.2.1 hne.out.2.2.1 hne.out.2.2.2.2.2.2.2.1
          have O3 : Own ((wo.drewN Q).setCell ⟨g1, k, none⟩ (.int .u8 (U : Int))) w.heap.size 5 g1 m m (fun j => .int .u8 ((if j < k + 1 then solU ss n p q g h j else 0 : Nat) : Int)) := A1.1.congr fun j _ => upd_row (F := fun j => solU ss n p q g h j) (G := fun _ => 0) hsU j
          have O4 := (O2.out.drewN Q).kept A1.2 hne.out.2.2.2.2.2.2.1.symm
          have p3 := O3.cell hkm
          rw [if_pos (by omega), hsU] at p3
          have p4 := O4.cell hkm
          simp only [Nat.lt_irrefl, if_false] at p4
          have A5 := O4.store k (.int .u8 (V : Int))
          exact ⟨p3, p4, O4.frozen k, S2.kept A5.2 hne.out.2.2.2.1 hne.out.2.2.2.2.1 hne.out.2.2.2.2.2.1 hne.out.2.2.2.2.2.2.2.2, O3.kept A5.2 hne.out.2.2.2.2.2.2.1, A5.1.congr fun j _ => upd_row (F := fun j => solV ss n p q g h j) (G := fun _ => 0) hsV j⟩
        have HK := Lib.hid KK
        have K3 := fun Q => (KK Q).1
        have K4 := fun Q => (KK Q).2.1
        have K5 := fun Q => (KK Q).2.2.1
        clear KK
        clear hG hH hD hI ht hz hU hV hsU hsV hGH0
        go_wp2_with fail
        go_quiet ((first
          | (go_at_call 55; (first | (with_reducible exact quiet_on (fun W' => CW1.out W')) | (with_reducible exact quiet_at (fun W' => CW1.out W')) | (with_reducible exact CW1.out _)))
          | (go_at_call 55; (first | (with_reducible exact quiet_on (fun W' => CW2.out W')) | (with_reducible exact quiet_at (fun W' => CW2.out W')) | (with_reducible exact CW2.out _)))
          | fail))
        go_wp2_with (first
          | (go_at_call 56; (with_reducible refine (CI.out _).mono ?_); rintro e w5 ⟨rfl, rfl⟩)
          | (go_at_call 54; (with_reducible refine (CM.out _).mono ?_); rintro e w6 ⟨rfl, rfl⟩)
          | (go_at_call 54; (with_reducible refine (CM2.out _).mono ?_); rintro e w7 ⟨rfl, rfl⟩)
          | fail)
        go_roundw
        case rel => exact ⟨k + 1, by go_num, by omega, Lib.hid (HK.out _).2.2.2.1, Lib.hid (HK.out _).2.2.2.2.1, Lib.hid (HK.out _).2.2.2.2.2⟩
        case measure => simp [intOf]; omega
      · obtain rfl : k = m := by omega
        obtain ⟨S5, hS5⟩ : ∃ S, wo.heap.size = S := ⟨_, rfl⟩
        have ST5 := HST.out.below ((Below.refl wo.heap.size wo).alloc (Nat.le_refl _) (.cells #[.slice (some ⟨g1, 0, none⟩) k k, .slice (some ⟨g2, 0, none⟩) k k] 101))
        obtain ⟨W5, hW5⟩ : ∃ W5, wo.alloc (.cells #[.slice (some ⟨g1, 0, none⟩) k k, .slice (some ⟨g2, 0, none⟩) k k] 101) = W5 := ⟨_, rfl⟩
        have hN5 : W5.heap[S5]? = some (.cells #[.slice (some ⟨g1, 0, none⟩) k k, .slice (some ⟨g2, 0, none⟩) k k] 101) := by rw [← hW5, ← hS5]; exact heap_alloc_new _ _
        have x50 := heap_cell hN5 0
        have x51 := heap_cell hN5 1
        simp only [List.getElem?_toArray, List.getElem?_cons_zero, List.getElem?_cons_succ] at x50 x51
        have hb5 : Below wo.heap.size wo W5 := by rw [← hW5]; exact (Below.refl _ _).alloc (Nat.le_refl _) _
        have l05 : g0 < S5 := by rw [← hS5]; exact HST.out.o0.lt.2
        rw [hW5] at ST5
        have O15 := O1.out.below hb5
        have R1 : Reads W5 (some ⟨g1, 0, none⟩) (rowF k fun j => .int .u8 (solU ss n p q g h j : Nat)) := (O15.congr fun j hj => by rw [if_pos hj]).reads
        have y1 := conv_back k (fun j => solU ss n p q g h j) (some ⟨g1, 0, none⟩) k W5 (fun j _ => solU_lt _ _ _ _ _ _ _) (fun h => by cases h) R1
        have y1' := conv_back k (fun j => solU ss n p q g h j) (some ⟨g1, 0, none⟩) k W5.drew (fun j _ => solU_lt _ _ _ _ _ _ _) (fun h => by cases h) R1
        obtain ⟨B1, hB1⟩ : ∃ B, bytesOf k (fun j => solU ss n p q g h j) = B := ⟨_, rfl⟩
        rw [hB1] at y1 y1'
        have lc5 := (ST5.bel.cell (World.block_lt_of_cell? w _ lc0)).trans lc0
        have z1 := ST5.o0.cell hg
        have zf1 := ST5.o0.frozen g
        have A6 := ST5.o0.store g (.string B1)
        have j0 : (0 : Int) ≤ (g : Int) := by omega
        have j1 : (g : Int) < (n : Int) := by omega
        have O6 : Own (W5.setCell ⟨g0, g, none⟩ (.string B1)) w.heap.size 9 g0 n cap0 (fun j => .string (if j = g then B1 else sAt ss j)) := A6.1.congr fun j _ => by split <;> rfl
        have bl6 : Below w.heap.size w (W5.setCell ⟨g0, g, none⟩ (.string B1)) := ST5.o0.belowStore ST5.bel (Nat.le_refl _) g _
        have x61 : (W5.setCell ⟨g0, g, none⟩ (.string B1)).cell? ⟨S5, 1, none⟩ = some (.slice (some ⟨g2, 0, none⟩) k k) := by rw [World.cell?_setCell_far _ _ _ _ (by show g0 ≠ S5; omega)]; exact x51
        have O25 := (O2.out.below hb5).kept A6.2 hne.out.2.2.2.2.2.1.symm
        have R2 : Reads (W5.setCell ⟨g0, g, none⟩ (.string B1)) (some ⟨g2, 0, none⟩) (rowF k fun j => .int .u8 (solV ss n p q g h j : Nat)) := (O25.congr fun j hj => by rw [if_pos hj]).reads
        obtain ⟨W6, hW6⟩ : ∃ W6, (W5.setCell ⟨g0, g, none⟩ (.string B1)).drew = W6 := ⟨_, rfl⟩
        have R26 : Reads W6 (some ⟨g2, 0, none⟩) (rowF k fun j => .int .u8 (solV ss n p q g h j : Nat)) := by rw [← hW6]; exact R2
        have y2 := conv_back k (fun j => solV ss n p q g h j) (some ⟨g2, 0, none⟩) k W6 (fun j _ => solV_lt _ _ _ _ _ _ _) (fun h => by cases h) R26
        have y2' := conv_back k (fun j => solV ss n p q g h j) (some ⟨g2, 0, none⟩) k W6.drew (fun j _ => solV_lt _ _ _ _ _ _ _) (fun h => by cases h) R26
        obtain ⟨B2, hB2⟩ : ∃ B, bytesOf k (fun j => solV ss n p q g h j) = B := ⟨_, rfl⟩
        rw [hB2] at y2 y2'
        have x62 : W6.cell? ⟨S5, 1, none⟩ = some (.slice (some ⟨g2, 0, none⟩) k k) := by rw [← hW6]; exact x61
        have O66 : Own W6 w.heap.size 9 g0 n cap0 (fun j => .string (if j = g then B1 else sAt ss j)) := by rw [← hW6]; exact O6
        have bl66 : Below w.heap.size w W6 := by rw [← hW6]; exact below_drew1 bl6
        have lc6 := (bl66.cell (World.block_lt_of_cell? w _ lc1)).trans lc1
        have z2 := O66.cell hh
        have zf2 := O66.frozen h
        have A7 := O66.store h (.string B2)
        have j2 : (0 : Int) ≤ (h : Int) := by omega
        have j3 : (h : Int) < (n : Int) := by omega
        have O7 : Own (W6.setCell ⟨g0, h, none⟩ (.string B2)) w.heap.size 9 g0 n cap0 (fun j => .string (if j = h then B2 else if j = g then B1 else sAt ss j)) := A7.1.congr fun j _ => by split <;> rfl
        have bl7 : Below w.heap.size w (W6.setCell ⟨g0, h, none⟩ (.string B2)) := O66.belowStore bl66 (Nat.le_refl _) h _
        have HF2 := Lib.hid (And.intro hB1 hB2)
        clear hB1 hB2 A6 A7 R1 R2 R26 O25 O15 hN5 hb5 ST5 HST O1 O2 O66 O6 bl6 bl66 x61
        have HO7 := Lib.hid O7
        have HB7 := Lib.hid bl7
        clear O7 bl7
        go_wp2_with fail
        refine wp_loop_rounds 3 ?_
        rw [rounds_succ]
        go_wp2_with fail
        go_region
        try rw [hW6]
        go_wp2_with fail
        rw [rounds_succ]
        go_wp2_with fail
        go_region
        go_wp2_with fail
        rw [rounds_succ]
        go_wp2_with fail
        (with_reducible refine (clip_str (some ⟨g0, 0, none⟩) n cap0 _ hcp2 hcp1).mono ?_)
        rintro e w9 ⟨rfl, rfl⟩
        go_wp2_with fail
        go_ret2
        refine ⟨g0, rfl, ?_, below_drew1 HB7.out⟩
        have hF : two2 ss n k p q g h = fun j => if j = h then B2 else if j = g then B1 else sAt ss j := by funext j; unfold two2; rw [← HF2.out.1, ← HF2.out.2]
        rw [hF]
        exact HO7.out.reads
  · have OA := own_A' w.heap.size m w3 HST.out.bel.size (by omega)
    have OB := own_B' w.heap.size m w3 HST.out.bel.size (by omega)
    have ST4 := HST.out.below (show Below w3.heap.size w3 (((w3.alloc (.cells (rowF m (fun _ => Value.int .u8 0)).toArray 5)).alloc (.cells (rowF m (fun _ => Value.int .u8 0)).toArray 5)).drew) from below_drew1 (((Below.refl _ w3).alloc (Nat.le_refl _) _).alloc (by simp) _))
    obtain ⟨W4, hW4⟩ : ∃ W4, ((w3.alloc (.cells (rowF m (fun _ => Value.int .u8 0)).toArray 5)).alloc (.cells (rowF m (fun _ => Value.int .u8 0)).toArray 5)).drew = W4 := ⟨_, rfl⟩
    rw [hW4] at OA OB ST4 ⊢
    obtain ⟨g1, hg1⟩ : ∃ g, w3.heap.size + 1 = g := ⟨_, rfl⟩
    obtain ⟨g2, hg2⟩ : ∃ g, w3.heap.size = g := ⟨_, rfl⟩
    have lx := HST.out.ox.lt
    have ly := HST.out.oy.lt
    have l0 := HST.out.o0.lt
    have hne : Hid (gx ≠ g1 ∧ gy ≠ g1 ∧ g0 ≠ g1 ∧ gx ≠ g2 ∧ gy ≠ g2 ∧ g0 ≠ g2 ∧ g1 ≠ g2 ∧ w.heap.size ≤ g1 ∧ w.heap.size ≤ g2) := Lib.hid (by omega)
    have O1 : Hid (Own W4 w.heap.size 5 g1 m m (fun j => .int .u8 ((if j < 0 then solU ss n p q g h j else 0 : Nat) : Int))) := Lib.hid (by rw [← hg1]; first | exact OA | exact OB)
    have O2 : Hid (Own W4 w.heap.size 5 g2 m m (fun j => .int .u8 ((if j < 0 then solV ss n p q g h j else 0 : Nat) : Int))) := Lib.hid (by rw [← hg2]; first | exact OA | exact OB)
    have HS4' := Lib.hid ST4
    try rw [hg1]
    try rw [hg2]
    clear OA OB ST4 hW4 hg1 hg2 lx ly l0 HST MK
    go_wp2_with fail
    go_loopw [49] (fun vi wr => ∃ k : Nat, vi = .int .i64 k ∧ k ≤ m ∧ Hid (MSt ss n m [(g : Int), (h : Int)] gx gy g0 cap0 (sAt ss) w wr) ∧ Hid (Own wr w.heap.size 5 g1 m m (fun j => .int .u8 ((if j < k then solU ss n p q g h j else 0 : Nat) : Int))) ∧ Hid (Own wr w.heap.size 5 g2 m m (fun j => .int .u8 ((if j < k then solV ss n p q g h j else 0 : Nat) : Int)))) (fun vi _ => m - (intOf vi).toNat)
    case atStart => exact ⟨0, rfl, by omega, HS4', O1, O2⟩
    case round =>
      clear HS4' O1 O2
      obtain ⟨k, rfl, hk, HST, O1, O2⟩ := hrel
      obtain ⟨wo, rfl⟩ : ∃ wo, wo = wr := ⟨_, rfl⟩
      by_cases hkm : k < m
      · obtain ⟨X, hX⟩ : ∃ x, xorN n (left [(g : Int), (h : Int)] (colP ss k)) = x := ⟨_, rfl⟩
        obtain ⟨Y, hY⟩ : ∃ x, xorN n (left [(g : Int), (h : Int)] (wtd (colP ss k))) = x := ⟨_, rfl⟩
        have hXb : X < 256 := by rw [← hX]; exact lsum_lt _ _ _ _
        have hYb : Y < 256 := by rw [← hY]; exact lwsum_lt _ _ _ _
        have cx := HST.out.ox.cell hkm
        have cy := HST.out.oy.cell hkm
        rw [hX] at cx
        rw [hY] at cy
        have kp : k < p.size := by omega
        have kq : k < q.size := by omega
        have bp := byteS_get p k kp
        have bq := byteS_get q k kq
        obtain ⟨a, ha⟩ : ∃ a, mA ss n p [(g : Int), (h : Int)] k = a := ⟨_, rfl⟩
        obtain ⟨b, hb⟩ : ∃ b, mB ss n q [(g : Int), (h : Int)] k = b := ⟨_, rfl⟩
        have hab : a < 256 := by rw [← ha]; exact mA_lt _ _ _ _ _
        have hbb : b < 256 := by rw [← hb]; exact mB_lt _ _ _ _ _
        have ea : bits .xor .u8 (X : Int) (p[k].toNat : Int) = (a : Int) := by rw [bp, u8_xor_nat X _ hXb (byteS_lt _ _), ← ha, ← hX]; rfl
        have eb : bits .xor .u8 (Y : Int) (q[k].toNat : Int) = (b : Int) := by rw [bq, u8_xor_nat Y _ hYb (byteS_lt _ _), ← hb, ← hY]; rfl
        have HA := Lib.hid ha
        have HB := Lib.hid hb
        clear hX hY bp bq ha hb
        have i0 : (0 : Int) ≤ (k : Int) := by omega
        have i1 : (k : Int) < (m : Int) := by omega
        have i2 : (k : Int) < (p.size : Int) := by omega
        have i3 : (k : Int) < (q.size : Int) := by omega
        have HP := Lib.hid hp
        have HQ := Lib.hid hq
        clear hp hq
        go_wp2_with fail
        go_quiet (fail)
        obtain ⟨G, hG⟩ : ∃ G, gpow 2 g = G := ⟨_, rfl⟩
        obtain ⟨H, hH⟩ : ∃ G, gpow 2 h = G := ⟨_, rfl⟩
        have hGb : G < 256 := by rw [← hG]; exact gpow_lt _
        have hHb : H < 256 := by rw [← hH]; exact gpow_lt _
        have hGH0 : G ^^^ H ≠ 0 := by rw [← hG, ← hH]; exact wt_ne ⟨g, by omega⟩ ⟨h, by omega⟩ (fun e => hgh (by simpa using e))
        have lc8 := (HST.out.bel.cell (World.block_lt_of_cell? w _ lc0)).trans lc0
        have lc9 := (HST.out.bel.cell (World.block_lt_of_cell? w _ lc1)).trans lc1
        have CW1 := Lib.hid (fun X => pair_weight_q g X (by omega))
        have CW2 := Lib.hid (fun X => pair_weight_q h X (by omega))
        rw [hG] at CW1
        rw [hH] at CW2
        obtain ⟨D, hD⟩ : ∃ D, G ^^^ H = D := ⟨_, rfl⟩
        have hDb : D < 256 := by rw [← hD]; exact xor_lt256 hGb hHb
        have eD : bits .xor .u8 (G : Int) (H : Int) = (D : Int) := by rw [u8_xor_nat G H hGb hHb, hD]
        rw [hD] at hGH0
        have CI := Lib.hid (fun X => field_Inv D X hDb hGH0)
        obtain ⟨I, hI⟩ : ∃ I, ginv D = I := ⟨_, rfl⟩
        rw [hI] at CI
        have hIb : I < 256 := by rw [← hI]; exact ginv_lt hDb
        obtain ⟨t, ht⟩ : ∃ t, gmul a H = t := ⟨_, rfl⟩
        have htb : t < 256 := by rw [← ht]; exact gmul_lt hab
        have CM := Lib.hid (fun X => field_Mul a H X hab hHb)
        rw [ht] at CM
        obtain ⟨z, hz⟩ : ∃ z, b ^^^ t = z := ⟨_, rfl⟩
        have hzb : z < 256 := by rw [← hz]; exact xor_lt256 hbb htb
        have ez : bits .xor .u8 (b : Int) (t : Int) = (z : Int) := by rw [u8_xor_nat b t hbb htb, hz]
        have CM2 := Lib.hid (fun X => field_Mul z I X hzb hIb)
        obtain ⟨U, hU⟩ : ∃ U, gmul z I = U := ⟨_, rfl⟩
        rw [hU] at CM2
        have hUb : U < 256 := by rw [← hU]; exact gmul_lt hzb
        obtain ⟨V, hV⟩ : ∃ V, a ^^^ U = V := ⟨_, rfl⟩
        have eV : bits .xor .u8 (a : Int) (U : Int) = (V : Int) := by rw [u8_xor_nat a U hab hUb, hV]
        have hsU : solU ss n p q g h k = U := by unfold solU; rw [HA.out, HB.out, hH, hG, ht, hz, hD, hI, hU]
        have hsV : solV ss n p q g h k = V := by unfold solV; rw [HA.out, hsU, hV]
        have p1 := O1.out.cell hkm
        have f1 := O1.out.frozen k
        have p2 := O2.out.cell hkm
        have f2 := O2.out.frozen k
        simp only [Nat.lt_irrefl, if_false] at p1 p2
        have KK : ∀ Q, ((wo.drewN Q).setCell ⟨g1, k, none⟩ (.int .u8 (U : Int))).cell? ⟨g1, k, none⟩ = some (.int .u8 (U : Int)) ∧ ((wo.drewN Q).setCell ⟨g1, k, none⟩ (.int .u8 (U : Int))).cell? ⟨g2, k, none⟩ = some (.int .u8 ((0 : Nat) : Int)) ∧ ((wo.drewN Q).setCell ⟨g1, k, none⟩ (.int .u8 (U : Int))).frozen? ⟨g2, k, none⟩ = false ∧
            MSt ss n m [(g : Int), (h : Int)] gx gy g0 cap0 (sAt ss) w (((wo.drewN Q).setCell ⟨g1, k, none⟩ (.int .u8 (U : Int))).setCell ⟨g2, k, none⟩ (.int .u8 (V : Int))) ∧
            Own (((wo.drewN Q).setCell ⟨g1, k, none⟩ (.int .u8 (U : Int))).setCell ⟨g2, k, none⟩ (.int .u8 (V : Int))) w.heap.size 5 g1 m m (fun j => .int .u8 ((if j < k + 1 then solU ss n p q g h j else 0 : Nat) : Int)) ∧
            Own (((wo.drewN Q).setCell ⟨g1, k, none⟩ (.int .u8 (U : Int))).setCell ⟨g2, k, none⟩ (.int .u8 (V : Int))) w.heap.size 5 g2 m m (fun j => .int .u8 ((if j < k + 1 then solV ss n p q g h j else 0 : Nat) : Int)) := by
          intro Q
          have A1 := (O1.out.drewN Q).store k (.int .u8 (U : Int))
          have S2 := (HST.out.below (below_dr _ _ Q)).kept A1.2 hne.out.1 hne.out.2.1 hne.out.2.2.1 hne.out.2.2.2.2.2.2.2.1
          have O3 : Own ((wo.drewN Q).setCell ⟨g1, k, none⟩ (.int .u8 (U : Int))) w.heap.size 5 g1 m m (fun j => .int .u8 ((if j < k + 1 then solU ss n p q g h j else 0 : Nat) : Int)) := A1.1.congr fun j _ => upd_row (F := fun j => solU ss n p q g h j) (G := fun _ => 0) hsU j
          have O4 := (O2.out.drewN Q).kept A1.2 hne.out.2.2.2.2.2.2.1.symm
          have p3 := O3.cell hkm
          rw [if_pos (by omega), hsU] at p3
          have p4 := O4.cell hkm
          simp only [Nat.lt_irrefl, if_false] at p4
          have A5 := O4.store k (.int .u8 (V : Int))
          exact ⟨p3, p4, O4.frozen k, S2.kept A5.2 hne.out.2.2.2.1 hne.out.2.2.2.2.1 hne.out.2.2.2.2.2.1 hne.out.2.2.2.2.2.2.2.2, O3.kept A5.2 hne.out.2.2.2.2.2.2.1, A5.1.congr fun j _ => upd_row (F := fun j => solV ss n p q g h j) (G := fun _ => 0) hsV j⟩
        have HK := Lib.hid KK
        have K3 := fun Q => (KK Q).1
        have K4 := fun Q => (KK Q).2.1
        have K5 := fun Q => (KK Q).2.2.1
        clear KK
        clear hG hH hD hI ht hz hU hV hsU hsV hGH0
        go_wp2_with fail
        go_quiet ((first
          | (go_at_call 55; (first | (with_reducible exact quiet_on (fun W' => CW1.out W')) | (with_reducible exact quiet_at (fun W' => CW1.out W')) | (with_reducible exact CW1.out _)))
          | (go_at_call 55; (first | (with_reducible exact quiet_on (fun W' => CW2.out W')) | (with_reducible exact quiet_at (fun W' => CW2.out W')) | (with_reducible exact CW2.out _)))
          | fail))
        go_wp2_with (first
          | (go_at_call 56; (with_reducible refine (CI.out _).mono ?_); rintro e w5 ⟨rfl, rfl⟩)
          | (go_at_call 54; (with_reducible refine (CM.out _).mono ?_); rintro e w6 ⟨rfl, rfl⟩)
          | (go_at_call 54; (with_reducible refine (CM2.out _).mono ?_); rintro e w7 ⟨rfl, rfl⟩)
          | fail)
        go_roundw
        case rel => exact ⟨k + 1, by go_num, by omega, Lib.hid (HK.out _).2.2.2.1, Lib.hid (HK.out _).2.2.2.2.1, Lib.hid (HK.out _).2.2.2.2.2⟩
        case measure => simp [intOf]; omega
      · obtain rfl : k = m := by omega
        obtain ⟨S5, hS5⟩ : ∃ S, wo.heap.size = S := ⟨_, rfl⟩
        have ST5 := HST.out.below ((Below.refl wo.heap.size wo).alloc (Nat.le_refl _) (.cells #[.slice (some ⟨g1, 0, none⟩) k k, .slice (some ⟨g2, 0, none⟩) k k] 101))
        obtain ⟨W5, hW5⟩ : ∃ W5, wo.alloc (.cells #[.slice (some ⟨g1, 0, none⟩) k k, .slice (some ⟨g2, 0, none⟩) k k] 101) = W5 := ⟨_, rfl⟩
        have hN5 : W5.heap[S5]? = some (.cells #[.slice (some ⟨g1, 0, none⟩) k k, .slice (some ⟨g2, 0, none⟩) k k] 101) := by rw [← hW5, ← hS5]; exact heap_alloc_new _ _
        have x50 := heap_cell hN5 0
        have x51 := heap_cell hN5 1
        simp only [List.getElem?_toArray, List.getElem?_cons_zero, List.getElem?_cons_succ] at x50 x51
        have hb5 : Below wo.heap.size wo W5 := by rw [← hW5]; exact (Below.refl _ _).alloc (Nat.le_refl _) _
        have l05 : g0 < S5 := by rw [← hS5]; exact HST.out.o0.lt.2
        rw [hW5] at ST5
        have O15 := O1.out.below hb5
        have R1 : Reads W5 (some ⟨g1, 0, none⟩) (rowF k fun j => .int .u8 (solU ss n p q g h j : Nat)) := (O15.congr fun j hj => by rw [if_pos hj]).reads
        have y1 := conv_back k (fun j => solU ss n p q g h j) (some ⟨g1, 0, none⟩) k W5 (fun j _ => solU_lt _ _ _ _ _ _ _) (fun h => by cases h) R1
        have y1' := conv_back k (fun j => solU ss n p q g h j) (some ⟨g1, 0, none⟩) k W5.drew (fun j _ => solU_lt _ _ _ _ _ _ _) (fun h => by cases h) R1
        obtain ⟨B1, hB1⟩ : ∃ B, bytesOf k (fun j => solU ss n p q g h j) = B := ⟨_, rfl⟩
        rw [hB1] at y1 y1'
        have lc5 := (ST5.bel.cell (World.block_lt_of_cell? w _ lc0)).trans lc0
        have z1 := ST5.o0.cell hg
        have zf1 := ST5.o0.frozen g
        have A6 := ST5.o0.store g (.string B1)
        have j0 : (0 : Int) ≤ (g : Int) := by omega
        have j1 : (g : Int) < (n : Int) := by omega
        have O6 : Own (W5.setCell ⟨g0, g, none⟩ (.string B1)) w.heap.size 9 g0 n cap0 (fun j => .string (if j = g then B1 else sAt ss j)) := A6.1.congr fun j _ => by split <;> rfl
        have bl6 : Below w.heap.size w (W5.setCell ⟨g0, g, none⟩ (.string B1)) := ST5.o0.belowStore ST5.bel (Nat.le_refl _) g _
        have x61 : (W5.setCell ⟨g0, g, none⟩ (.string B1)).cell? ⟨S5, 1, none⟩ = some (.slice (some ⟨g2, 0, none⟩) k k) := by rw [World.cell?_setCell_far _ _ _ _ (by show g0 ≠ S5; omega)]; exact x51
        have O25 := (O2.out.below hb5).kept A6.2 hne.out.2.2.2.2.2.1.symm
        have R2 : Reads (W5.setCell ⟨g0, g, none⟩ (.string B1)) (some ⟨g2, 0, none⟩) (rowF k fun j => .int .u8 (solV ss n p q g h j : Nat)) := (O25.congr fun j hj => by rw [if_pos hj]).reads
        obtain ⟨W6, hW6⟩ : ∃ W6, (W5.setCell ⟨g0, g, none⟩ (.string B1)).drew = W6 := ⟨_, rfl⟩
        have R26 : Reads W6 (some ⟨g2, 0, none⟩) (rowF k fun j => .int .u8 (solV ss n p q g h j : Nat)) := by rw [← hW6]; exact R2
        have y2 := conv_back k (fun j => solV ss n p q g h j) (some ⟨g2, 0, none⟩) k W6 (fun j _ => solV_lt _ _ _ _ _ _ _) (fun h => by cases h) R26
        have y2' := conv_back k (fun j => solV ss n p q g h j) (some ⟨g2, 0, none⟩) k W6.drew (fun j _ => solV_lt _ _ _ _ _ _ _) (fun h => by cases h) R26
        obtain ⟨B2, hB2⟩ : ∃ B, bytesOf k (fun j => solV ss n p q g h j) = B := ⟨_, rfl⟩
        rw [hB2] at y2 y2'
        have x62 : W6.cell? ⟨S5, 1, none⟩ = some (.slice (some ⟨g2, 0, none⟩) k k) := by rw [← hW6]; exact x61
        have O66 : Own W6 w.heap.size 9 g0 n cap0 (fun j => .string (if j = g then B1 else sAt ss j)) := by rw [← hW6]; exact O6
        have bl66 : Below w.heap.size w W6 := by rw [← hW6]; exact below_drew1 bl6
        have lc6 := (bl66.cell (World.block_lt_of_cell? w _ lc1)).trans lc1
        have z2 := O66.cell hh
        have zf2 := O66.frozen h
        have A7 := O66.store h (.string B2)
        have j2 : (0 : Int) ≤ (h : Int) := by omega
        have j3 : (h : Int) < (n : Int) := by omega
        have O7 : Own (W6.setCell ⟨g0, h, none⟩ (.string B2)) w.heap.size 9 g0 n cap0 (fun j => .string (if j = h then B2 else if j = g then B1 else sAt ss j)) := A7.1.congr fun j _ => by split <;> rfl
        have bl7 : Below w.heap.size w (W6.setCell ⟨g0, h, none⟩ (.string B2)) := O66.belowStore bl66 (Nat.le_refl _) h _
        have HF2 := Lib.hid (And.intro hB1 hB2)
        clear hB1 hB2 A6 A7 R1 R2 R26 O25 O15 hN5 hb5 ST5 HST O1 O2 O66 O6 bl6 bl66 x61
        have HO7 := Lib.hid O7
        have HB7 := Lib.hid bl7
        clear O7 bl7
        go_wp2_with fail
        refine wp_loop_rounds 3 ?_
        rw [rounds_succ]
        go_wp2_with fail
        go_region
        try rw [hW6]
        go_wp2_with fail
        rw [rounds_succ]
        go_wp2_with fail
        go_region
        go_wp2_with fail
        rw [rounds_succ]
        go_wp2_with fail
        (with_reducible refine (clip_str (some ⟨g0, 0, none⟩) n cap0 _ hcp2 hcp1).mono ?_)
        rintro e w9 ⟨rfl, rfl⟩
        go_wp2_with fail
        go_ret2
        refine ⟨g0, rfl, ?_, below_drew1 HB7.out⟩
        have hF : two2 ss n k p q g h = fun j => if j = h then B2 else if j = g then B1 else sAt ss j := by funext j; unfold two2; rw [← HF2.out.1, ← HF2.out.2]
        rw [hF]
        exact HO7.out.reads
end Go.Proofs.Ythnbhhfbmkklmaa
