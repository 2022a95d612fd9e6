/- GridSays: the law's walk, where the first bytes are unlike. (Printed by wip/tools/gen_gridk.py.) -/
import Derived.Test.YtgdcmebhopjfaaaGridK
namespace Go.Proofs.Ytgdcmebhopjfaaa
open Go.RowKit

set_option maxRecDepth 100000 in
set_option maxHeartbeats 8000000 in
theorem grid_g_err (h h' : Hd) (m : Nat) (w : World) (hh : RowOk w h) (hh' : RowOk w h') (hE : unE h.Z = 0) (hm1 : 1 ≤ m) (hm : m ≤ 12) (hE' : unE h'.Z ≠ 0) :
    Calls Try.prog 8 #[h.v, h'.v, .int .i64 m] w fun e w' => e = .returned (.bool true) ∧ Below w.heap.size w w' := by
  obtain ⟨B, hB⟩ : ∃ B, w.heap.size = B := ⟨_, rfl⟩
  obtain ⟨W, hW⟩ : ∃ W, w.alloc (.cells #[h.v] 59) = W := ⟨_, rfl⟩
  have hbW : Below w.heap.size w W := by rw [← hW]; exact (Below.refl _ w).alloc (Nat.le_refl _) _
  have hcW : W.cell? ⟨B, 0, none⟩ = some h.v := by rw [← hW, ← hB]; simp [World.cell?_alloc_new]
  have hsW : B < W.heap.size := World.block_lt_of_cell? _ _ hcW
  have CP := Lib.hid (fun X (hX : Below W.heap.size W X) => grid_Powers h m X ((hh.below hbW).below hX) hE hm1 hm)
  have CC := Lib.hid (fun X (hX : Below W.heap.size W X) => grid_Crossed_bad h h' (unE h'.Z) X ((hh.below hbW).below hX) ((hh'.below hbW).below hX) (.inr (.inl ⟨hE, rfl, hE'⟩)))
  have CU := Lib.hid (fun X (hX : Below W.heap.size W X) => ref_Unlike h X ((hh.below hbW).below hX))
  have CU' := Lib.hid (fun X (hX : Below W.heap.size W X) => ref_Unlike h' X ((hh'.below hbW).below hX))
  have CM := Lib.hid (fun X (hX : Below W.heap.size W X) => meets 52 (.inr rfl) h' h B X ((hh'.below hbW).below hX) ((hh.below hbW).below hX) ((hX.cell (World.block_lt_of_cell? _ _ hcW)).trans hcW) (fun x W => by go_simp))
  have HB : Hid (Below w.heap.size w W) := hbW
  have HCB := Lib.hid (fun X (hX : Below W.heap.size W X) => (hX.cell (World.block_lt_of_cell? _ _ hcW)).trans hcW)
  have CS := Lib.hid (fun (S T : List Hd) (a b : Nat) ao bo ca cb X h1 h2 => sameRows_u8 S T a b ao bo ca cb X h1 h2)
  rw [hE] at CU
  obtain ⟨E, hEq⟩ : ∃ E, unE h'.Z = E := ⟨_, rfl⟩
  rw [hEq] at CC CU' hE'
  have hne : (E != 0) = true := by simpa using hE'
  have hne2 : (E == 0) = false := by simpa using hE'
  clear hEq
  obtain ⟨n, hn⟩ : ∃ n, h.Z.length = n := ⟨_, rfl⟩
  have hn0 := unE_lt hE
  have HBY : Hid (∀ z ∈ h.Z, z < 256) := hh.byte
  have HR : Hid (Reads W h.A (u8s h.Z)) := (hh.below hbW).reads
  obtain ⟨A, C, Z⟩ := h
  have m1 := hh.cap
  have m2 := hh.max
  have m3 := hh.none
  obtain ⟨A', C', Y⟩ := h'
  obtain ⟨m', hm'⟩ : ∃ m', Y.length = m' := ⟨_, rfl⟩
  have m1' := hh'.cap
  have m2' := hh'.max
  have m3' := hh'.none
  have HBY' : Hid (∀ z ∈ Y, z < 256) := hh'.byte
  have HR' : Hid (Reads W A' (u8s Y)) := (hh'.below hbW).reads
  have HN : Hid (Z.length = n) := hn
  have HM : Hid (Y.length = m') := hm'
  simp only at hn m1 m2 m3 hn0 m1' m2' m3' hm'
  unfold Hd.v at CP CC CU CU' CM HCB hW ⊢
  simp only at CP CC CU CU' CM HCB HR HBY hW ⊢
  simp only [hn, hm'] at CP CC CU CU' CM HCB hW m1 m3 hn0 m1' m3' ⊢
  have c0 := HCB.out W (Below.refl _ _)
  cases A with
  | none => have := m3 rfl; omega
  | some ad =>
  have q1 : ¬ (m : Int) < 1 := by omega
  have q2 : ¬ (12 : Int) < (m : Int) := by omega
  clear hh hh' hbW hcW hE m3 m3' hn hm' hE'
  go_enter Try.func8, Try.ntmps8
  go_wp2_with (first
    | (go_at_call 47; (with_reducible refine (CP.out _ (Below.refl _ _)).mono ?_); rintro e w1 ⟨aP, cP, TP, rfl, tP, zP, b1⟩; have c1 := HCB.out w1 b1)
    | (go_at_call 48; (with_reducible refine (CC.out _ b1).mono ?_); rintro e w2 ⟨rfl, b2⟩; have b12 := b1.trans (b2.mono b1.size); have c2 := HCB.out w2 b12)
    | (go_at_call 49; (with_reducible refine (CU.out _ b12).mono ?_); rintro e w3 ⟨rfl, b3⟩; have b13 := b12.trans (b3.mono b12.size); have c3 := HCB.out w3 b13)
    | fail)
  have bWB : Hid (Below W.heap.size W w3) := b13
  have hTP := Lib.hid ((tP.below b2).below b3)
  have hZP := Lib.hid zP
  clear tP zP b1 b2 b3 b12 b13 c1 c2 CP CC CU
  obtain ⟨WB, hWB⟩ : ∃ WB, w3 = WB := ⟨_, rfl⟩
  rw [hWB] at bWB hTP c3 ⊢
  clear hWB
  go_loopw [12, 70] (fun va vi wr => ∃ (i : Nat) (T : List Hd), vi = .int .i64 i ∧ i ≤ n ∧ Hid (TabB wr WB.heap.size 59 va i T) ∧ Hid (zof T = (Z.take i).map fun x => (List.range m).map (gpow x)) ∧ Hid (Below WB.heap.size WB wr)) (fun _ vi _ => n - (intOf vi).toNat)
  case atStart => exact ⟨0, [], rfl, by omega, tabB_nil _ _ _, Lib.hid (by simp [zof]), Below.refl _ _⟩
  case round =>
    obtain ⟨i, T, rfl, hi, hT, hZT, hb⟩ := hrel
    by_cases hin : i < n
    · obtain ⟨x, hx⟩ : ∃ x, Z[i]? = some x := ⟨Z[i]'(by rw [HN.out]; exact hin), List.getElem?_eq_getElem _⟩
      obtain ⟨bz, oz, hbo, hc⟩ := ((HR.out.below bWB.out).below hb.out) i _ (u8s_get hx)
      cases hbo
      have hx256 := HBY.out x (List.mem_of_getElem? hx)
      have HX := Lib.hid hx
      have HXM := Lib.hid (List.mem_of_getElem? hx)
      have i0 : (0 : Int) ≤ (i : Int) := by omega
      have i1 : (i : Int) < (n : Int) := by omega
      clear hx
      obtain ⟨wo, rfl⟩ : ∃ wo, wo = wr := ⟨_, rfl⟩
      go_wp2_with fail
      go_loopw [15, 75] (fun vr vk wr2 => ∃ (k : Nat), vk = .int .i64 k ∧ k ≤ m ∧ Hid (wr2.ownsRow wo.heap.size 5 1 vr k (u8s ((List.range k).map (gpow x)))) ∧ Hid (Below wo.heap.size wo wr2)) (fun _ vk _ => m - (intOf vk).toNat)
      case atStart => exact ⟨0, rfl, by omega, by exact World.ownsRow_nil _ _ _ _, Below.refl _ _⟩
      case round =>
        clear hc
        obtain ⟨k, rfl, hk, hO, hb2⟩ := hrel
        by_cases hkm : k < m
        · have hP := Lib.hid (fun W => ref_Power x k W hx256 (by omega))
          have HE : Hid (u8s ((List.range (k + 1)).map (gpow x)) = u8s ((List.range k).map (gpow x)) ++ [.int .u8 (gpow x k : Nat)]) := by
            show _ = _
            rw [List.range_succ, List.map_append, u8s_append]; rfl
          have k1 : (k : Int) < (m : Int) := by omega
          go_wp2_with (first
            | (go_at_call 50; refine (hP.out _).mono ?_; rintro e w5 ⟨rfl, k5, hw5⟩; have hO5 : Hid (w5.ownsRow wo.heap.size 5 1 _ k (u8s ((List.range k).map (gpow x)))) := Lib.hid (by rw [hw5]; exact own_below hO.out (below_dr _ _ _)); have hb5 : Hid (Below wo.heap.size wo w5) := Lib.hid (by rw [hw5]; exact below_drewN hb2.out _); clear hw5)
            | (at_builtin; go_must (refine app_one2 rfl (.tmp 78) (.tmp 82) 59 rfl wo.heap.size 5 _ 1 1 Try.underlying59 u8Info _ k (u8s ((List.range k).map (gpow x))) (by rfl) hO5.out [.int .u8 (gpow x k : Nat)] (by rfl) rfl (by intro u hu; simp at hu; subst hu; rfl) (by unfold maxLen; omega) (by omega) hb5.out.size ?_); intro v6 w6 hown6 hgr6 hb6 hvb; rw [← HE.out] at hown6; have hO6 := Lib.hid hown6; have hb7 := Lib.hid (hb5.out.trans hb6))
            | fail)
          clear hown6 hgr6 hb6 hvb
          go_roundw
          case rel => exact ⟨k + 1, by go_num, by omega, hO6, hb7⟩
          case measure => simp [intOf]; omega
        · obtain rfl : m = k := by omega
          obtain ⟨g7, c7, rfl, hr7, hl7, hg7, _⟩ := row_made hO.out (fun z hz => by obtain ⟨y, _, rfl⟩ := List.mem_map.1 hz; exact gpow_lt _) (by omega)
          have hT7 := Lib.hid (hT.out.below hb2.out)
          have hB7 := Lib.hid (hb.out.trans (hb2.out.mono hb.out.size))
          have hap := hT.out.apart hg7 (cap := c7) (Z := (List.range m).map (gpow x))
          go_wp2_with (first
            | (at_builtin; go_must (refine app_one2 rfl (.tmp 85) (.tmp 87) 51 rfl WB.heap.size 59 _ 1 24 Try.underlying51 rowsInfo _ i (T.map Hd.v) (by rfl) hT7.out.top [.slice (some ⟨g7, 0, none⟩) m c7] (by rfl) rfl (by intro u hu; simp at hu; subst hu; rfl) (by unfold maxLen; omega) (by omega) hB7.out.size ?_); intro v8 w8 hown8 hgr8 hb8 hvb8; have X := TabB.push (x := ⟨some ⟨g7, 0, none⟩, c7, (List.range m).map (gpow x)⟩) hT7.out hr7 (by simp only; omega) hap hgr8 (by unfold Hd.v at hown8 ⊢; simp only; rw [hl7]; exact hown8) hvb8; have hT8 := Lib.hid X; have hB8 := Lib.hid (hB7.out.trans hb8); clear X)
            | fail)
          have hZ8 : Hid (zof (T ++ [(⟨some ⟨g7, 0, none⟩, c7, (List.range m).map (gpow x)⟩ : Hd)]) = (Z.take (i + 1)).map fun x => (List.range m).map (gpow x)) := Lib.hid (by
            rw [show zof (T ++ [(⟨some ⟨g7, 0, none⟩, c7, (List.range m).map (gpow x)⟩ : Hd)]) = zof T ++ [(List.range m).map (gpow x)] by simp [zof], hZT.out, List.take_add_one, HX.out, List.map_append]
            rfl)
          clear hown8 hgr8 hb8 hvb8 hr7 hl7 hap
          go_roundw
          case rel => exact ⟨i + 1, _, by go_num, by omega, hT8, hZ8, hB8⟩
          case measure => simp [intOf]; omega
    · obtain rfl : n = i := by omega
      have hZall : Hid (zof T = Z.map fun x => (List.range m).map (gpow x)) := Lib.hid (by rw [hZT.out, ← HN.out, List.take_length])
      obtain ⟨aT, cT, rfl, tT, _, _, _⟩ := hT.out.tab
      clear hT hZT
      have hTP2 := hTP.out.below hb.out
      have BB : Below W.heap.size W wr := bWB.out.trans (hb.out.mono bWB.out.size)
      have cB := HCB.out wr BB
      have hsm : zof TP = zof T := by rw [hZP.out, hZall.out]
      have CSx := Lib.hid (CS.out TP T n n aP aT cP cT wr hTP2 tT)
      rw [decide_eq_true hsm] at CSx
      clear hsm tT hTP2 hZall
      go_wp2_with (first
        | (go_at_call 41; (with_reducible refine CSx.out.mono ?_); rintro e w4 ⟨rfl, k4, hw4⟩; have BB0 := BB; clear BB; have BB : Below W.heap.size W w4 := (by rw [hw4]; exact below_drewN BB0 _); have c4 := HCB.out w4 BB; have hd4 : Below wr.heap.size wr w4 := (by rw [hw4]; exact below_dr _ _ _); clear hw4)
        | (go_at_call 49; (with_reducible refine (CU'.out _ BB).mono ?_); rintro e w9 ⟨rfl, b9⟩; have b19 := BB.trans (b9.mono BB.size); have c9 := HCB.out w9 b19)
        | (go_at_call 51; (with_reducible refine (CM.out _ b19).mono ?_); rintro e w10 ⟨rfl, k10, hw10⟩; have b20 : Below W.heap.size W w10 := (by rw [hw10]; exact below_drewN b19 _); have c10 := HCB.out w10 b20; have hd10 : Below w9.heap.size w9 w10 := (by rw [hw10]; exact below_dr _ _ _); clear hw10)
        | fail)
      go_ret
      exact ⟨rfl, HB.out.trans (b19.mono HB.out.size)⟩
set_option maxRecDepth 100000 in
set_option maxHeartbeats 8000000 in
theorem grid_g_meet (h h' : Hd) (m : Nat) (w : World) (hh : RowOk w h) (hh' : RowOk w h') (hE : unE h.Z = 0) (hm1 : 1 ≤ m) (hm : m ≤ 12) (hE' : unE h'.Z = 0) (hM : meetB h.Z h'.Z = true) :
    Calls Try.prog 8 #[h.v, h'.v, .int .i64 m] w fun e w' => e = .returned (.bool true) ∧ Below w.heap.size w w' := by
  obtain ⟨B, hB⟩ : ∃ B, w.heap.size = B := ⟨_, rfl⟩
  obtain ⟨W, hW⟩ : ∃ W, w.alloc (.cells #[h.v] 59) = W := ⟨_, rfl⟩
  have hbW : Below w.heap.size w W := by rw [← hW]; exact (Below.refl _ w).alloc (Nat.le_refl _) _
  have hcW : W.cell? ⟨B, 0, none⟩ = some h.v := by rw [← hW, ← hB]; simp [World.cell?_alloc_new]
  have hsW : B < W.heap.size := World.block_lt_of_cell? _ _ hcW
  have CP := Lib.hid (fun X (hX : Below W.heap.size W X) => grid_Powers h m X ((hh.below hbW).below hX) hE hm1 hm)
  have CC := Lib.hid (fun X (hX : Below W.heap.size W X) => grid_Crossed_bad h h' 6 X ((hh.below hbW).below hX) ((hh'.below hbW).below hX) (.inr (.inr ⟨hE, hE', hM, rfl⟩)))
  have CU := Lib.hid (fun X (hX : Below W.heap.size W X) => ref_Unlike h X ((hh.below hbW).below hX))
  have CU' := Lib.hid (fun X (hX : Below W.heap.size W X) => ref_Unlike h' X ((hh'.below hbW).below hX))
  have CM := Lib.hid (fun X (hX : Below W.heap.size W X) => meets 52 (.inr rfl) h' h B X ((hh'.below hbW).below hX) ((hh.below hbW).below hX) ((hX.cell (World.block_lt_of_cell? _ _ hcW)).trans hcW) (fun x W => by go_simp))
  have HB : Hid (Below w.heap.size w W) := hbW
  have HCB := Lib.hid (fun X (hX : Below W.heap.size W X) => (hX.cell (World.block_lt_of_cell? _ _ hcW)).trans hcW)
  have CS := Lib.hid (fun (S T : List Hd) (a b : Nat) ao bo ca cb X h1 h2 => sameRows_u8 S T a b ao bo ca cb X h1 h2)
  rw [hE] at CU
  rw [hE'] at CU'
  rw [meetB_symm, hM] at CM
  obtain ⟨n, hn⟩ : ∃ n, h.Z.length = n := ⟨_, rfl⟩
  have hn0 := unE_lt hE
  have HBY : Hid (∀ z ∈ h.Z, z < 256) := hh.byte
  have HR : Hid (Reads W h.A (u8s h.Z)) := (hh.below hbW).reads
  obtain ⟨A, C, Z⟩ := h
  have m1 := hh.cap
  have m2 := hh.max
  have m3 := hh.none
  obtain ⟨A', C', Y⟩ := h'
  obtain ⟨m', hm'⟩ : ∃ m', Y.length = m' := ⟨_, rfl⟩
  have m1' := hh'.cap
  have m2' := hh'.max
  have m3' := hh'.none
  have HBY' : Hid (∀ z ∈ Y, z < 256) := hh'.byte
  have HR' : Hid (Reads W A' (u8s Y)) := (hh'.below hbW).reads
  have HN : Hid (Z.length = n) := hn
  have HM : Hid (Y.length = m') := hm'
  simp only at hn m1 m2 m3 hn0 m1' m2' m3' hm'
  unfold Hd.v at CP CC CU CU' CM HCB hW ⊢
  simp only at CP CC CU CU' CM HCB HR HBY hW ⊢
  simp only [hn, hm'] at CP CC CU CU' CM HCB hW m1 m3 hn0 m1' m3' ⊢
  have c0 := HCB.out W (Below.refl _ _)
  cases A with
  | none => have := m3 rfl; omega
  | some ad =>
  have q1 : ¬ (m : Int) < 1 := by omega
  have q2 : ¬ (12 : Int) < (m : Int) := by omega
  clear hh hh' hbW hcW hE m3 m3' hn hm' hE' hM
  go_enter Try.func8, Try.ntmps8
  go_wp2_with (first
    | (go_at_call 47; (with_reducible refine (CP.out _ (Below.refl _ _)).mono ?_); rintro e w1 ⟨aP, cP, TP, rfl, tP, zP, b1⟩; have c1 := HCB.out w1 b1)
    | (go_at_call 48; (with_reducible refine (CC.out _ b1).mono ?_); rintro e w2 ⟨rfl, b2⟩; have b12 := b1.trans (b2.mono b1.size); have c2 := HCB.out w2 b12)
    | (go_at_call 49; (with_reducible refine (CU.out _ b12).mono ?_); rintro e w3 ⟨rfl, b3⟩; have b13 := b12.trans (b3.mono b12.size); have c3 := HCB.out w3 b13)
    | fail)
  have bWB : Hid (Below W.heap.size W w3) := b13
  have hTP := Lib.hid ((tP.below b2).below b3)
  have hZP := Lib.hid zP
  clear tP zP b1 b2 b3 b12 b13 c1 c2 CP CC CU
  obtain ⟨WB, hWB⟩ : ∃ WB, w3 = WB := ⟨_, rfl⟩
  rw [hWB] at bWB hTP c3 ⊢
  clear hWB
  go_loopw [12, 70] (fun va vi wr => ∃ (i : Nat) (T : List Hd), vi = .int .i64 i ∧ i ≤ n ∧ Hid (TabB wr WB.heap.size 59 va i T) ∧ Hid (zof T = (Z.take i).map fun x => (List.range m).map (gpow x)) ∧ Hid (Below WB.heap.size WB wr)) (fun _ vi _ => n - (intOf vi).toNat)
  case atStart => exact ⟨0, [], rfl, by omega, tabB_nil _ _ _, Lib.hid (by simp [zof]), Below.refl _ _⟩
  case round =>
    obtain ⟨i, T, rfl, hi, hT, hZT, hb⟩ := hrel
    by_cases hin : i < n
    · obtain ⟨x, hx⟩ : ∃ x, Z[i]? = some x := ⟨Z[i]'(by rw [HN.out]; exact hin), List.getElem?_eq_getElem _⟩
      obtain ⟨bz, oz, hbo, hc⟩ := ((HR.out.below bWB.out).below hb.out) i _ (u8s_get hx)
      cases hbo
      have hx256 := HBY.out x (List.mem_of_getElem? hx)
      have HX := Lib.hid hx
      have HXM := Lib.hid (List.mem_of_getElem? hx)
      have i0 : (0 : Int) ≤ (i : Int) := by omega
      have i1 : (i : Int) < (n : Int) := by omega
      clear hx
      obtain ⟨wo, rfl⟩ : ∃ wo, wo = wr := ⟨_, rfl⟩
      go_wp2_with fail
      go_loopw [15, 75] (fun vr vk wr2 => ∃ (k : Nat), vk = .int .i64 k ∧ k ≤ m ∧ Hid (wr2.ownsRow wo.heap.size 5 1 vr k (u8s ((List.range k).map (gpow x)))) ∧ Hid (Below wo.heap.size wo wr2)) (fun _ vk _ => m - (intOf vk).toNat)
      case atStart => exact ⟨0, rfl, by omega, by exact World.ownsRow_nil _ _ _ _, Below.refl _ _⟩
      case round =>
        clear hc
        obtain ⟨k, rfl, hk, hO, hb2⟩ := hrel
        by_cases hkm : k < m
        · have hP := Lib.hid (fun W => ref_Power x k W hx256 (by omega))
          have HE : Hid (u8s ((List.range (k + 1)).map (gpow x)) = u8s ((List.range k).map (gpow x)) ++ [.int .u8 (gpow x k : Nat)]) := by
            show _ = _
            rw [List.range_succ, List.map_append, u8s_append]; rfl
          have k1 : (k : Int) < (m : Int) := by omega
          go_wp2_with (first
            | (go_at_call 50; refine (hP.out _).mono ?_; rintro e w5 ⟨rfl, k5, hw5⟩; have hO5 : Hid (w5.ownsRow wo.heap.size 5 1 _ k (u8s ((List.range k).map (gpow x)))) := Lib.hid (by rw [hw5]; exact own_below hO.out (below_dr _ _ _)); have hb5 : Hid (Below wo.heap.size wo w5) := Lib.hid (by rw [hw5]; exact below_drewN hb2.out _); clear hw5)
            | (at_builtin; go_must (refine app_one2 rfl (.tmp 78) (.tmp 82) 59 rfl wo.heap.size 5 _ 1 1 Try.underlying59 u8Info _ k (u8s ((List.range k).map (gpow x))) (by rfl) hO5.out [.int .u8 (gpow x k : Nat)] (by rfl) rfl (by intro u hu; simp at hu; subst hu; rfl) (by unfold maxLen; omega) (by omega) hb5.out.size ?_); intro v6 w6 hown6 hgr6 hb6 hvb; rw [← HE.out] at hown6; have hO6 := Lib.hid hown6; have hb7 := Lib.hid (hb5.out.trans hb6))
            | fail)
          clear hown6 hgr6 hb6 hvb
          go_roundw
          case rel => exact ⟨k + 1, by go_num, by omega, hO6, hb7⟩
          case measure => simp [intOf]; omega
        · obtain rfl : m = k := by omega
          obtain ⟨g7, c7, rfl, hr7, hl7, hg7, _⟩ := row_made hO.out (fun z hz => by obtain ⟨y, _, rfl⟩ := List.mem_map.1 hz; exact gpow_lt _) (by omega)
          have hT7 := Lib.hid (hT.out.below hb2.out)
          have hB7 := Lib.hid (hb.out.trans (hb2.out.mono hb.out.size))
          have hap := hT.out.apart hg7 (cap := c7) (Z := (List.range m).map (gpow x))
          go_wp2_with (first
            | (at_builtin; go_must (refine app_one2 rfl (.tmp 85) (.tmp 87) 51 rfl WB.heap.size 59 _ 1 24 Try.underlying51 rowsInfo _ i (T.map Hd.v) (by rfl) hT7.out.top [.slice (some ⟨g7, 0, none⟩) m c7] (by rfl) rfl (by intro u hu; simp at hu; subst hu; rfl) (by unfold maxLen; omega) (by omega) hB7.out.size ?_); intro v8 w8 hown8 hgr8 hb8 hvb8; have X := TabB.push (x := ⟨some ⟨g7, 0, none⟩, c7, (List.range m).map (gpow x)⟩) hT7.out hr7 (by simp only; omega) hap hgr8 (by unfold Hd.v at hown8 ⊢; simp only; rw [hl7]; exact hown8) hvb8; have hT8 := Lib.hid X; have hB8 := Lib.hid (hB7.out.trans hb8); clear X)
            | fail)
          have hZ8 : Hid (zof (T ++ [(⟨some ⟨g7, 0, none⟩, c7, (List.range m).map (gpow x)⟩ : Hd)]) = (Z.take (i + 1)).map fun x => (List.range m).map (gpow x)) := Lib.hid (by
            rw [show zof (T ++ [(⟨some ⟨g7, 0, none⟩, c7, (List.range m).map (gpow x)⟩ : Hd)]) = zof T ++ [(List.range m).map (gpow x)] by simp [zof], hZT.out, List.take_add_one, HX.out, List.map_append]
            rfl)
          clear hown8 hgr8 hb8 hvb8 hr7 hl7 hap
          go_roundw
          case rel => exact ⟨i + 1, _, by go_num, by omega, hT8, hZ8, hB8⟩
          case measure => simp [intOf]; omega
    · obtain rfl : n = i := by omega
      have hZall : Hid (zof T = Z.map fun x => (List.range m).map (gpow x)) := Lib.hid (by rw [hZT.out, ← HN.out, List.take_length])
      obtain ⟨aT, cT, rfl, tT, _, _, _⟩ := hT.out.tab
      clear hT hZT
      have hTP2 := hTP.out.below hb.out
      have BB : Below W.heap.size W wr := bWB.out.trans (hb.out.mono bWB.out.size)
      have cB := HCB.out wr BB
      have hsm : zof TP = zof T := by rw [hZP.out, hZall.out]
      have CSx := Lib.hid (CS.out TP T n n aP aT cP cT wr hTP2 tT)
      rw [decide_eq_true hsm] at CSx
      clear hsm tT hTP2 hZall
      go_wp2_with (first
        | (go_at_call 41; (with_reducible refine CSx.out.mono ?_); rintro e w4 ⟨rfl, k4, hw4⟩; have BB0 := BB; clear BB; have BB : Below W.heap.size W w4 := (by rw [hw4]; exact below_drewN BB0 _); have c4 := HCB.out w4 BB; have hd4 : Below wr.heap.size wr w4 := (by rw [hw4]; exact below_dr _ _ _); clear hw4)
        | (go_at_call 49; (with_reducible refine (CU'.out _ BB).mono ?_); rintro e w9 ⟨rfl, b9⟩; have b19 := BB.trans (b9.mono BB.size); have c9 := HCB.out w9 b19)
        | (go_at_call 51; (with_reducible refine (CM.out _ b19).mono ?_); rintro e w10 ⟨rfl, k10, hw10⟩; have b20 : Below W.heap.size W w10 := (by rw [hw10]; exact below_drewN b19 _); have c10 := HCB.out w10 b20; have hd10 : Below w9.heap.size w9 w10 := (by rw [hw10]; exact below_dr _ _ _); clear hw10)
        | fail)
      go_ret
      exact ⟨rfl, HB.out.trans (b20.mono HB.out.size)⟩
set_option maxRecDepth 100000 in
set_option maxHeartbeats 8000000 in
theorem grid_g_ok (h h' : Hd) (m : Nat) (w : World) (hh : RowOk w h) (hh' : RowOk w h') (hE : unE h.Z = 0) (hm1 : 1 ≤ m) (hm : m ≤ 12) (hE' : unE h'.Z = 0) (hM : meetB h.Z h'.Z = false) :
    Calls Try.prog 8 #[h.v, h'.v, .int .i64 m] w fun e w' => e = .returned (.bool true) ∧ Below w.heap.size w w' := by
  obtain ⟨B, hB⟩ : ∃ B, w.heap.size = B := ⟨_, rfl⟩
  obtain ⟨W, hW⟩ : ∃ W, w.alloc (.cells #[h.v] 59) = W := ⟨_, rfl⟩
  have hbW : Below w.heap.size w W := by rw [← hW]; exact (Below.refl _ w).alloc (Nat.le_refl _) _
  have hcW : W.cell? ⟨B, 0, none⟩ = some h.v := by rw [← hW, ← hB]; simp [World.cell?_alloc_new]
  have hsW : B < W.heap.size := World.block_lt_of_cell? _ _ hcW
  have CP := Lib.hid (fun X (hX : Below W.heap.size W X) => grid_Powers h m X ((hh.below hbW).below hX) hE hm1 hm)
  have CC := Lib.hid (fun X (hX : Below W.heap.size W X) => grid_Crossed h h' X ((hh.below hbW).below hX) ((hh'.below hbW).below hX) hE hE' hM)
  have CU := Lib.hid (fun X (hX : Below W.heap.size W X) => ref_Unlike h X ((hh.below hbW).below hX))
  have CU' := Lib.hid (fun X (hX : Below W.heap.size W X) => ref_Unlike h' X ((hh'.below hbW).below hX))
  have CM := Lib.hid (fun X (hX : Below W.heap.size W X) => meets 52 (.inr rfl) h' h B X ((hh'.below hbW).below hX) ((hh.below hbW).below hX) ((hX.cell (World.block_lt_of_cell? _ _ hcW)).trans hcW) (fun x W => by go_simp))
  have HB : Hid (Below w.heap.size w W) := hbW
  have HCB := Lib.hid (fun X (hX : Below W.heap.size W X) => (hX.cell (World.block_lt_of_cell? _ _ hcW)).trans hcW)
  have CS := Lib.hid (fun (S T : List Hd) (a b : Nat) ao bo ca cb X h1 h2 => sameRows_u8 S T a b ao bo ca cb X h1 h2)
  rw [hE] at CU
  rw [hE'] at CU'
  rw [meetB_symm, hM] at CM
  obtain ⟨n, hn⟩ : ∃ n, h.Z.length = n := ⟨_, rfl⟩
  have hn0 := unE_lt hE
  have HBY : Hid (∀ z ∈ h.Z, z < 256) := hh.byte
  have HR : Hid (Reads W h.A (u8s h.Z)) := (hh.below hbW).reads
  obtain ⟨A, C, Z⟩ := h
  have m1 := hh.cap
  have m2 := hh.max
  have m3 := hh.none
  obtain ⟨A', C', Y⟩ := h'
  obtain ⟨m', hm'⟩ : ∃ m', Y.length = m' := ⟨_, rfl⟩
  have m1' := hh'.cap
  have m2' := hh'.max
  have m3' := hh'.none
  have HBY' : Hid (∀ z ∈ Y, z < 256) := hh'.byte
  have HR' : Hid (Reads W A' (u8s Y)) := (hh'.below hbW).reads
  have HN : Hid (Z.length = n) := hn
  have HM : Hid (Y.length = m') := hm'
  simp only at hn m1 m2 m3 hn0 m1' m2' m3' hm'
  unfold Hd.v at CP CC CU CU' CM HCB hW ⊢
  simp only at CP CC CU CU' CM HCB HR HBY hW ⊢
  simp only [hn, hm'] at CP CC CU CU' CM HCB hW m1 m3 hn0 m1' m3' ⊢
  have c0 := HCB.out W (Below.refl _ _)
  have hdis : Hid (unE Y = 0) := hE'
  have hm0 : 0 < m' ∧ m' ≤ 12 := by rw [← hm']; exact unE_lt hE'
  cases A' with
  | none => have := m3' rfl; omega
  | some ad' =>
  cases A with
  | none => have := m3 rfl; omega
  | some ad =>
  have q1 : ¬ (m : Int) < 1 := by omega
  have q2 : ¬ (12 : Int) < (m : Int) := by omega
  clear hh hh' hbW hcW hE m3 m3' hn hm' hE' hM
  go_enter Try.func8, Try.ntmps8
  go_wp2_with (first
    | (go_at_call 47; (with_reducible refine (CP.out _ (Below.refl _ _)).mono ?_); rintro e w1 ⟨aP, cP, TP, rfl, tP, zP, b1⟩; have c1 := HCB.out w1 b1)
    | (go_at_call 48; (with_reducible refine (CC.out _ b1).mono ?_); rintro e w2 ⟨aC, cC, TC, rfl, tC, zC, b2⟩; have b12 := b1.trans (b2.mono b1.size); have c2 := HCB.out w2 b12)
    | (go_at_call 49; (with_reducible refine (CU.out _ b12).mono ?_); rintro e w3 ⟨rfl, b3⟩; have b13 := b12.trans (b3.mono b12.size); have c3 := HCB.out w3 b13)
    | fail)
  have bWB : Hid (Below W.heap.size W w3) := b13
  have hTP := Lib.hid ((tP.below b2).below b3)
  have hTC := Lib.hid (tC.below b3)
  have hZC := Lib.hid zC
  clear tC zC
  have hZP := Lib.hid zP
  clear tP zP b1 b2 b3 b12 b13 c1 c2 CP CC CU
  obtain ⟨WB, hWB⟩ : ∃ WB, w3 = WB := ⟨_, rfl⟩
  rw [hWB] at bWB hTP c3 hTC ⊢
  clear hWB
  go_loopw [12, 70] (fun va vi wr => ∃ (i : Nat) (T : List Hd), vi = .int .i64 i ∧ i ≤ n ∧ Hid (TabB wr WB.heap.size 59 va i T) ∧ Hid (zof T = (Z.take i).map fun x => (List.range m).map (gpow x)) ∧ Hid (Below WB.heap.size WB wr)) (fun _ vi _ => n - (intOf vi).toNat)
  case atStart => exact ⟨0, [], rfl, by omega, tabB_nil _ _ _, Lib.hid (by simp [zof]), Below.refl _ _⟩
  case round =>
    obtain ⟨i, T, rfl, hi, hT, hZT, hb⟩ := hrel
    by_cases hin : i < n
    · obtain ⟨x, hx⟩ : ∃ x, Z[i]? = some x := ⟨Z[i]'(by rw [HN.out]; exact hin), List.getElem?_eq_getElem _⟩
      obtain ⟨bz, oz, hbo, hc⟩ := ((HR.out.below bWB.out).below hb.out) i _ (u8s_get hx)
      cases hbo
      have hx256 := HBY.out x (List.mem_of_getElem? hx)
      have HX := Lib.hid hx
      have HXM := Lib.hid (List.mem_of_getElem? hx)
      have i0 : (0 : Int) ≤ (i : Int) := by omega
      have i1 : (i : Int) < (n : Int) := by omega
      clear hx
      obtain ⟨wo, rfl⟩ : ∃ wo, wo = wr := ⟨_, rfl⟩
      go_wp2_with fail
      go_loopw [15, 75] (fun vr vk wr2 => ∃ (k : Nat), vk = .int .i64 k ∧ k ≤ m ∧ Hid (wr2.ownsRow wo.heap.size 5 1 vr k (u8s ((List.range k).map (gpow x)))) ∧ Hid (Below wo.heap.size wo wr2)) (fun _ vk _ => m - (intOf vk).toNat)
      case atStart => exact ⟨0, rfl, by omega, by exact World.ownsRow_nil _ _ _ _, Below.refl _ _⟩
      case round =>
        clear hc
        obtain ⟨k, rfl, hk, hO, hb2⟩ := hrel
        by_cases hkm : k < m
        · have hP := Lib.hid (fun W => ref_Power x k W hx256 (by omega))
          have HE : Hid (u8s ((List.range (k + 1)).map (gpow x)) = u8s ((List.range k).map (gpow x)) ++ [.int .u8 (gpow x k : Nat)]) := by
            show _ = _
            rw [List.range_succ, List.map_append, u8s_append]; rfl
          have k1 : (k : Int) < (m : Int) := by omega
          go_wp2_with (first
            | (go_at_call 50; refine (hP.out _).mono ?_; rintro e w5 ⟨rfl, k5, hw5⟩; have hO5 : Hid (w5.ownsRow wo.heap.size 5 1 _ k (u8s ((List.range k).map (gpow x)))) := Lib.hid (by rw [hw5]; exact own_below hO.out (below_dr _ _ _)); have hb5 : Hid (Below wo.heap.size wo w5) := Lib.hid (by rw [hw5]; exact below_drewN hb2.out _); clear hw5)
            | (at_builtin; go_must (refine app_one2 rfl (.tmp 78) (.tmp 82) 59 rfl wo.heap.size 5 _ 1 1 Try.underlying59 u8Info _ k (u8s ((List.range k).map (gpow x))) (by rfl) hO5.out [.int .u8 (gpow x k : Nat)] (by rfl) rfl (by intro u hu; simp at hu; subst hu; rfl) (by unfold maxLen; omega) (by omega) hb5.out.size ?_); intro v6 w6 hown6 hgr6 hb6 hvb; rw [← HE.out] at hown6; have hO6 := Lib.hid hown6; have hb7 := Lib.hid (hb5.out.trans hb6))
            | fail)
          clear hown6 hgr6 hb6 hvb
          go_roundw
          case rel => exact ⟨k + 1, by go_num, by omega, hO6, hb7⟩
          case measure => simp [intOf]; omega
        · obtain rfl : m = k := by omega
          obtain ⟨g7, c7, rfl, hr7, hl7, hg7, _⟩ := row_made hO.out (fun z hz => by obtain ⟨y, _, rfl⟩ := List.mem_map.1 hz; exact gpow_lt _) (by omega)
          have hT7 := Lib.hid (hT.out.below hb2.out)
          have hB7 := Lib.hid (hb.out.trans (hb2.out.mono hb.out.size))
          have hap := hT.out.apart hg7 (cap := c7) (Z := (List.range m).map (gpow x))
          go_wp2_with (first
            | (at_builtin; go_must (refine app_one2 rfl (.tmp 85) (.tmp 87) 51 rfl WB.heap.size 59 _ 1 24 Try.underlying51 rowsInfo _ i (T.map Hd.v) (by rfl) hT7.out.top [.slice (some ⟨g7, 0, none⟩) m c7] (by rfl) rfl (by intro u hu; simp at hu; subst hu; rfl) (by unfold maxLen; omega) (by omega) hB7.out.size ?_); intro v8 w8 hown8 hgr8 hb8 hvb8; have X := TabB.push (x := ⟨some ⟨g7, 0, none⟩, c7, (List.range m).map (gpow x)⟩) hT7.out hr7 (by simp only; omega) hap hgr8 (by unfold Hd.v at hown8 ⊢; simp only; rw [hl7]; exact hown8) hvb8; have hT8 := Lib.hid X; have hB8 := Lib.hid (hB7.out.trans hb8); clear X)
            | fail)
          have hZ8 : Hid (zof (T ++ [(⟨some ⟨g7, 0, none⟩, c7, (List.range m).map (gpow x)⟩ : Hd)]) = (Z.take (i + 1)).map fun x => (List.range m).map (gpow x)) := Lib.hid (by
            rw [show zof (T ++ [(⟨some ⟨g7, 0, none⟩, c7, (List.range m).map (gpow x)⟩ : Hd)]) = zof T ++ [(List.range m).map (gpow x)] by simp [zof], hZT.out, List.take_add_one, HX.out, List.map_append]
            rfl)
          clear hown8 hgr8 hb8 hvb8 hr7 hl7 hap
          go_roundw
          case rel => exact ⟨i + 1, _, by go_num, by omega, hT8, hZ8, hB8⟩
          case measure => simp [intOf]; omega
    · obtain rfl : n = i := by omega
      have hZall : Hid (zof T = Z.map fun x => (List.range m).map (gpow x)) := Lib.hid (by rw [hZT.out, ← HN.out, List.take_length])
      obtain ⟨aT, cT, rfl, tT, _, _, _⟩ := hT.out.tab
      clear hT hZT
      have hTP2 := hTP.out.below hb.out
      have BB : Below W.heap.size W wr := bWB.out.trans (hb.out.mono bWB.out.size)
      have cB := HCB.out wr BB
      have hsm : zof TP = zof T := by rw [hZP.out, hZall.out]
      have CSx := Lib.hid (CS.out TP T n n aP aT cP cT wr hTP2 tT)
      rw [decide_eq_true hsm] at CSx
      clear hsm tT hTP2 hZall
      go_wp2_with (first
        | (go_at_call 41; (with_reducible refine CSx.out.mono ?_); rintro e w4 ⟨rfl, k4, hw4⟩; have BB0 := BB; clear BB; have BB : Below W.heap.size W w4 := (by rw [hw4]; exact below_drewN BB0 _); have c4 := HCB.out w4 BB; have hd4 : Below wr.heap.size wr w4 := (by rw [hw4]; exact below_dr _ _ _); clear hw4)
        | (go_at_call 49; (with_reducible refine (CU'.out _ BB).mono ?_); rintro e w9 ⟨rfl, b9⟩; have b19 := BB.trans (b9.mono BB.size); have c9 := HCB.out w9 b19)
        | (go_at_call 51; (with_reducible refine (CM.out _ b19).mono ?_); rintro e w10 ⟨rfl, k10, hw10⟩; have b20 : Below W.heap.size W w10 := (by rw [hw10]; exact below_drewN b19 _); have c10 := HCB.out w10 b20; have hd10 : Below w9.heap.size w9 w10 := (by rw [hw10]; exact below_dr _ _ _); clear hw10)
        | fail)
      have hTC2 := Lib.hid ((((hTC.out.below hb.out).below hd4).below b9).below hd10)
      have bWB2 : Hid (Below W.heap.size W w10) := b20
      obtain ⟨WC, hWC⟩ : ∃ WC, w10 = WC := ⟨_, rfl⟩
      rw [hWC] at bWB2 hTC2 c10 ⊢
      clear hWC b20 b19
      go_loopw [17, 119] (fun va vi wr => ∃ (i : Nat) (T : List Hd), vi = .int .i64 i ∧ i ≤ n ∧ Hid (TabB wr WC.heap.size 59 va i T) ∧ Hid (zof T = (Z.take i).map fun x => Y.map fun y => ginv (x ^^^ y)) ∧ Hid (Below WC.heap.size WC wr)) (fun _ vi _ => n - (intOf vi).toNat)
      case atStart => exact ⟨0, [], rfl, by omega, tabB_nil _ _ _, Lib.hid (by simp [zof]), Below.refl _ _⟩
      case round =>
        obtain ⟨i, T, rfl, hi, hT, hZT, hb⟩ := hrel
        by_cases hin : i < n
        · obtain ⟨x, hx⟩ : ∃ x, Z[i]? = some x := ⟨Z[i]'(by rw [HN.out]; exact hin), List.getElem?_eq_getElem _⟩
          obtain ⟨bz, oz, hbo, hc⟩ := ((HR.out.below bWB2.out).below hb.out) i _ (u8s_get hx)
          cases hbo
          have hx256 := HBY.out x (List.mem_of_getElem? hx)
          have HX := Lib.hid hx
          have HXM := Lib.hid (List.mem_of_getElem? hx)
          have i0 : (0 : Int) ≤ (i : Int) := by omega
          have i1 : (i : Int) < (n : Int) := by omega
          clear hx
          obtain ⟨wo, rfl⟩ : ∃ wo, wo = wr := ⟨_, rfl⟩
          go_wp2_with fail
          go_loopw [20, 125] (fun vr vk wr2 => ∃ (k : Nat), vk = .int .i64 k ∧ k ≤ m' ∧ Hid (wr2.ownsRow wo.heap.size 5 1 vr k (u8s ((Y.take k).map fun y => ginv (x ^^^ y)))) ∧ Hid (Below wo.heap.size wo wr2)) (fun _ vk _ => m' - (intOf vk).toNat)
          case atStart => exact ⟨0, rfl, by omega, by exact World.ownsRow_nil _ _ _ _, Below.refl _ _⟩
          case round =>
            clear hc
            obtain ⟨k, rfl, hk, hO, hb2⟩ := hrel
            by_cases hkm : k < m'
            · obtain ⟨y, hy⟩ : ∃ y, Y[k]? = some y := ⟨Y[k]'(by rw [HM.out]; exact hkm), List.getElem?_eq_getElem _⟩
              obtain ⟨by_, oy, hbo, hc2⟩ := (((HR'.out.below bWB2.out).below hb.out).below hb2.out) k _ (u8s_get hy)
              cases hbo
              have hy256 := HBY'.out y (List.mem_of_getElem? hy)
              obtain ⟨z, hz⟩ : ∃ z, x ^^^ y = z := ⟨_, rfl⟩
              have hz256 : z < 256 := by rw [← hz]; exact xor_lt256 hx256 hy256
              have ex : bits .xor .u8 (x : Int) (y : Int) = (z : Int) := by rw [u8_xor_nat x y hx256 hy256, hz]
              have hP := Lib.hid (fun W => ref_Undo z W hz256)
              have k0 : (0 : Int) ≤ (k : Int) := by omega
              have HE : Hid (u8s ((Y.take (k + 1)).map fun y => ginv (x ^^^ y)) = u8s ((Y.take k).map fun y => ginv (x ^^^ y)) ++ [.int .u8 (ginv z : Nat)]) := by
                show _ = _
                rw [List.take_add_one, hy, List.map_append, u8s_append, ← hz]; rfl
              clear hy hz
              have k1 : (k : Int) < (m' : Int) := by omega
              go_wp2_with (first
                | (go_at_call 54; refine (hP.out _).mono ?_; rintro e w5 ⟨rfl, k5, hw5⟩; have hO5 : Hid (w5.ownsRow wo.heap.size 5 1 _ k (u8s ((Y.take k).map fun y => ginv (x ^^^ y)))) := Lib.hid (by rw [hw5]; exact own_below hO.out (below_dr _ _ _)); have hb5 : Hid (Below wo.heap.size wo w5) := Lib.hid (by rw [hw5]; exact below_drewN hb2.out _); clear hw5)
                | (at_builtin; go_must (refine app_one2 rfl (.tmp 129) (.tmp 134) 59 rfl wo.heap.size 5 _ 1 1 Try.underlying59 u8Info _ k (u8s ((Y.take k).map fun y => ginv (x ^^^ y))) (by rfl) hO5.out [.int .u8 (ginv z : Nat)] (by rfl) rfl (by intro u hu; simp at hu; subst hu; rfl) (by unfold maxLen; omega) (by omega) hb5.out.size ?_); intro v6 w6 hown6 hgr6 hb6 hvb; rw [← HE.out] at hown6; have hO6 := Lib.hid hown6; have hb7 := Lib.hid (hb5.out.trans hb6))
                | fail)
              clear hown6 hgr6 hb6 hvb
              go_roundw
              case rel => exact ⟨k + 1, by go_num, by omega, hO6, hb7⟩
              case measure => simp [intOf]; omega
            · obtain rfl : m' = k := by omega
              obtain ⟨g7, c7, rfl, hr7, hl7, hg7, _⟩ := row_made hO.out (fun z hz => by obtain ⟨y, hy, rfl⟩ := List.mem_map.1 hz; exact ginv_lt (xor_lt256 hx256 (HBY'.out y (List.mem_of_mem_take hy)))) (by omega)
              have hT7 := Lib.hid (hT.out.below hb2.out)
              have hB7 := Lib.hid (hb.out.trans (hb2.out.mono hb.out.size))
              have hap := hT.out.apart hg7 (cap := c7) (Z := (Y.take m').map fun y => ginv (x ^^^ y))
              go_wp2_with (first
                | (at_builtin; go_must (refine app_one2 rfl (.tmp 137) (.tmp 139) 51 rfl WC.heap.size 59 _ 1 24 Try.underlying51 rowsInfo _ i (T.map Hd.v) (by rfl) hT7.out.top [.slice (some ⟨g7, 0, none⟩) m' c7] (by rfl) rfl (by intro u hu; simp at hu; subst hu; rfl) (by unfold maxLen; omega) (by omega) hB7.out.size ?_); intro v8 w8 hown8 hgr8 hb8 hvb8; have X := TabB.push (x := ⟨some ⟨g7, 0, none⟩, c7, (Y.take m').map fun y => ginv (x ^^^ y)⟩) hT7.out hr7 (by simp only; omega) hap hgr8 (by unfold Hd.v at hown8 ⊢; simp only; rw [hl7]; exact hown8) hvb8; have hT8 := Lib.hid X; have hB8 := Lib.hid (hB7.out.trans hb8); clear X)
                | fail)
              have hZ8 : Hid (zof (T ++ [(⟨some ⟨g7, 0, none⟩, c7, (Y.take m').map fun y => ginv (x ^^^ y)⟩ : Hd)]) = (Z.take (i + 1)).map fun x => Y.map fun y => ginv (x ^^^ y)) := Lib.hid (by
                rw [show zof (T ++ [(⟨some ⟨g7, 0, none⟩, c7, (Y.take m').map fun y => ginv (x ^^^ y)⟩ : Hd)]) = zof T ++ [(Y.take m').map fun y => ginv (x ^^^ y)] by simp [zof], hZT.out, List.take_add_one, HX.out, List.map_append]
                rw [← HM.out, List.take_length]; rfl)
              clear hown8 hgr8 hb8 hvb8 hr7 hl7 hap
              go_roundw
              case rel => exact ⟨i + 1, _, by go_num, by omega, hT8, hZ8, hB8⟩
              case measure => simp [intOf]; omega
        · obtain rfl : n = i := by omega
          have hZall : Hid (zof T = Z.map fun x => Y.map fun y => ginv (x ^^^ y)) := Lib.hid (by rw [hZT.out, ← HN.out, List.take_length])
          obtain ⟨aT, cT, rfl, tT, _, _, _⟩ := hT.out.tab
          clear hT hZT
          have hTC3 := hTC2.out.below hb.out
          have BB2 : Below W.heap.size W wr := bWB2.out.trans (hb.out.mono bWB2.out.size)
          have hsm : zof TC = zof T := by rw [hZC.out, hZall.out]
          have CSy := Lib.hid (CS.out TC T n n aC aT cC cT wr hTC3 tT)
          rw [decide_eq_true hsm] at CSy
          clear hsm tT hTC3 hZall
          go_wp2_with (first
            | (go_at_call 41; (with_reducible refine CSy.out.mono ?_); rintro e w11 ⟨rfl, k11, rfl⟩)
            | fail)
          go_ret
          exact ⟨rfl, HB.out.trans ((below_drewN BB2 _).mono HB.out.size)⟩
set_option maxRecDepth 100000 in
set_option maxHeartbeats 8000000 in
theorem grid_b_err (h h' : Hd) (m : Int) (w : World) (hh : RowOk w h) (hh' : RowOk w h') (hE : unE h.Z = 0) (hmw : (Lit.int .i64 m).wf = true) (hm : m < 1 ∨ 12 < m) (hE' : unE h'.Z ≠ 0) :
    Calls Try.prog 8 #[h.v, h'.v, .int .i64 m] w fun e w' => e = .returned (.bool true) ∧ Below w.heap.size w w' := by
  obtain ⟨B, hB⟩ : ∃ B, w.heap.size = B := ⟨_, rfl⟩
  obtain ⟨W, hW⟩ : ∃ W, w.alloc (.cells #[h.v] 59) = W := ⟨_, rfl⟩
  have hbW : Below w.heap.size w W := by rw [← hW]; exact (Below.refl _ w).alloc (Nat.le_refl _) _
  have hcW : W.cell? ⟨B, 0, none⟩ = some h.v := by rw [← hW, ← hB]; simp [World.cell?_alloc_new]
  have hsW : B < W.heap.size := World.block_lt_of_cell? _ _ hcW
  have CP := Lib.hid (fun X (hX : Below W.heap.size W X) => grid_Powers_arg h m X ((hh.below hbW).below hX) hE hm)
  have CC := Lib.hid (fun X (hX : Below W.heap.size W X) => grid_Crossed_bad h h' (unE h'.Z) X ((hh.below hbW).below hX) ((hh'.below hbW).below hX) (.inr (.inl ⟨hE, rfl, hE'⟩)))
  have CU := Lib.hid (fun X (hX : Below W.heap.size W X) => ref_Unlike h X ((hh.below hbW).below hX))
  have CU' := Lib.hid (fun X (hX : Below W.heap.size W X) => ref_Unlike h' X ((hh'.below hbW).below hX))
  have CM := Lib.hid (fun X (hX : Below W.heap.size W X) => meets 52 (.inr rfl) h' h B X ((hh'.below hbW).below hX) ((hh.below hbW).below hX) ((hX.cell (World.block_lt_of_cell? _ _ hcW)).trans hcW) (fun x W => by go_simp))
  have HB : Hid (Below w.heap.size w W) := hbW
  have HCB := Lib.hid (fun X (hX : Below W.heap.size W X) => (hX.cell (World.block_lt_of_cell? _ _ hcW)).trans hcW)
  have CS := Lib.hid (fun (S T : List Hd) (a b : Nat) ao bo ca cb X h1 h2 => sameRows_u8 S T a b ao bo ca cb X h1 h2)
  rw [hE] at CU
  obtain ⟨E, hEq⟩ : ∃ E, unE h'.Z = E := ⟨_, rfl⟩
  rw [hEq] at CC CU' hE'
  have hne : (E != 0) = true := by simpa using hE'
  have hne2 : (E == 0) = false := by simpa using hE'
  clear hEq
  obtain ⟨n, hn⟩ : ∃ n, h.Z.length = n := ⟨_, rfl⟩
  have hn0 := unE_lt hE
  have HBY : Hid (∀ z ∈ h.Z, z < 256) := hh.byte
  have HR : Hid (Reads W h.A (u8s h.Z)) := (hh.below hbW).reads
  obtain ⟨A, C, Z⟩ := h
  have m1 := hh.cap
  have m2 := hh.max
  have m3 := hh.none
  obtain ⟨A', C', Y⟩ := h'
  obtain ⟨m', hm'⟩ : ∃ m', Y.length = m' := ⟨_, rfl⟩
  have m1' := hh'.cap
  have m2' := hh'.max
  have m3' := hh'.none
  have HBY' : Hid (∀ z ∈ Y, z < 256) := hh'.byte
  have HR' : Hid (Reads W A' (u8s Y)) := (hh'.below hbW).reads
  have HN : Hid (Z.length = n) := hn
  have HM : Hid (Y.length = m') := hm'
  simp only at hn m1 m2 m3 hn0 m1' m2' m3' hm'
  unfold Hd.v at CP CC CU CU' CM HCB hW ⊢
  simp only at CP CC CU CU' CM HCB HR HBY hW ⊢
  simp only [hn, hm'] at CP CC CU CU' CM HCB hW m1 m3 hn0 m1' m3' ⊢
  have c0 := HCB.out W (Below.refl _ _)
  cases A with
  | none => have := m3 rfl; omega
  | some ad =>
  clear hh hh' hbW hcW hE m3 m3' hn hm' hE'
  rcases Int.lt_or_le m 1 with q1 | q1
  all_goals
    try (have q2 : 12 < m := by omega)
    go_enter Try.func8, Try.ntmps8
    go_wp2_with (first
      | (go_at_call 47; (with_reducible refine (CP.out _ (Below.refl _ _)).mono ?_); rintro e w1 ⟨rfl, b1⟩; have c1 := HCB.out w1 b1)
      | (go_at_call 48; (with_reducible refine (CC.out _ b1).mono ?_); rintro e w2 ⟨rfl, b2⟩; have b12 := b1.trans (b2.mono b1.size); have c2 := HCB.out w2 b12)
      | (go_at_call 49; (with_reducible refine (CU.out _ b12).mono ?_); rintro e w3 ⟨rfl, b3⟩; have b13 := b12.trans (b3.mono b12.size); have c3 := HCB.out w3 b13)
      | (go_at_call 49; (with_reducible refine (CU'.out _ b13).mono ?_); rintro e w9 ⟨rfl, b9⟩; have b19 := b13.trans (b9.mono b13.size); have c9 := HCB.out w9 b19)
      | (go_at_call 51; (with_reducible refine (CM.out _ b19).mono ?_); rintro e w10 ⟨rfl, k10, hw10⟩; have b20 : Below W.heap.size W w10 := (by rw [hw10]; exact below_drewN b19 _); have c10 := HCB.out w10 b20; have hd10 : Below w9.heap.size w9 w10 := (by rw [hw10]; exact below_dr _ _ _); clear hw10)
      | fail)
    go_ret
    exact ⟨rfl, HB.out.trans (b19.mono HB.out.size)⟩
set_option maxRecDepth 100000 in
set_option maxHeartbeats 8000000 in
theorem grid_b_meet (h h' : Hd) (m : Int) (w : World) (hh : RowOk w h) (hh' : RowOk w h') (hE : unE h.Z = 0) (hmw : (Lit.int .i64 m).wf = true) (hm : m < 1 ∨ 12 < m) (hE' : unE h'.Z = 0) (hM : meetB h.Z h'.Z = true) :
    Calls Try.prog 8 #[h.v, h'.v, .int .i64 m] w fun e w' => e = .returned (.bool true) ∧ Below w.heap.size w w' := by
  obtain ⟨B, hB⟩ : ∃ B, w.heap.size = B := ⟨_, rfl⟩
  obtain ⟨W, hW⟩ : ∃ W, w.alloc (.cells #[h.v] 59) = W := ⟨_, rfl⟩
  have hbW : Below w.heap.size w W := by rw [← hW]; exact (Below.refl _ w).alloc (Nat.le_refl _) _
  have hcW : W.cell? ⟨B, 0, none⟩ = some h.v := by rw [← hW, ← hB]; simp [World.cell?_alloc_new]
  have hsW : B < W.heap.size := World.block_lt_of_cell? _ _ hcW
  have CP := Lib.hid (fun X (hX : Below W.heap.size W X) => grid_Powers_arg h m X ((hh.below hbW).below hX) hE hm)
  have CC := Lib.hid (fun X (hX : Below W.heap.size W X) => grid_Crossed_bad h h' 6 X ((hh.below hbW).below hX) ((hh'.below hbW).below hX) (.inr (.inr ⟨hE, hE', hM, rfl⟩)))
  have CU := Lib.hid (fun X (hX : Below W.heap.size W X) => ref_Unlike h X ((hh.below hbW).below hX))
  have CU' := Lib.hid (fun X (hX : Below W.heap.size W X) => ref_Unlike h' X ((hh'.below hbW).below hX))
  have CM := Lib.hid (fun X (hX : Below W.heap.size W X) => meets 52 (.inr rfl) h' h B X ((hh'.below hbW).below hX) ((hh.below hbW).below hX) ((hX.cell (World.block_lt_of_cell? _ _ hcW)).trans hcW) (fun x W => by go_simp))
  have HB : Hid (Below w.heap.size w W) := hbW
  have HCB := Lib.hid (fun X (hX : Below W.heap.size W X) => (hX.cell (World.block_lt_of_cell? _ _ hcW)).trans hcW)
  have CS := Lib.hid (fun (S T : List Hd) (a b : Nat) ao bo ca cb X h1 h2 => sameRows_u8 S T a b ao bo ca cb X h1 h2)
  rw [hE] at CU
  rw [hE'] at CU'
  rw [meetB_symm, hM] at CM
  obtain ⟨n, hn⟩ : ∃ n, h.Z.length = n := ⟨_, rfl⟩
  have hn0 := unE_lt hE
  have HBY : Hid (∀ z ∈ h.Z, z < 256) := hh.byte
  have HR : Hid (Reads W h.A (u8s h.Z)) := (hh.below hbW).reads
  obtain ⟨A, C, Z⟩ := h
  have m1 := hh.cap
  have m2 := hh.max
  have m3 := hh.none
  obtain ⟨A', C', Y⟩ := h'
  obtain ⟨m', hm'⟩ : ∃ m', Y.length = m' := ⟨_, rfl⟩
  have m1' := hh'.cap
  have m2' := hh'.max
  have m3' := hh'.none
  have HBY' : Hid (∀ z ∈ Y, z < 256) := hh'.byte
  have HR' : Hid (Reads W A' (u8s Y)) := (hh'.below hbW).reads
  have HN : Hid (Z.length = n) := hn
  have HM : Hid (Y.length = m') := hm'
  simp only at hn m1 m2 m3 hn0 m1' m2' m3' hm'
  unfold Hd.v at CP CC CU CU' CM HCB hW ⊢
  simp only at CP CC CU CU' CM HCB HR HBY hW ⊢
  simp only [hn, hm'] at CP CC CU CU' CM HCB hW m1 m3 hn0 m1' m3' ⊢
  have c0 := HCB.out W (Below.refl _ _)
  cases A with
  | none => have := m3 rfl; omega
  | some ad =>
  clear hh hh' hbW hcW hE m3 m3' hn hm' hE' hM
  rcases Int.lt_or_le m 1 with q1 | q1
  all_goals
    try (have q2 : 12 < m := by omega)
    go_enter Try.func8, Try.ntmps8
    go_wp2_with (first
      | (go_at_call 47; (with_reducible refine (CP.out _ (Below.refl _ _)).mono ?_); rintro e w1 ⟨rfl, b1⟩; have c1 := HCB.out w1 b1)
      | (go_at_call 48; (with_reducible refine (CC.out _ b1).mono ?_); rintro e w2 ⟨rfl, b2⟩; have b12 := b1.trans (b2.mono b1.size); have c2 := HCB.out w2 b12)
      | (go_at_call 49; (with_reducible refine (CU.out _ b12).mono ?_); rintro e w3 ⟨rfl, b3⟩; have b13 := b12.trans (b3.mono b12.size); have c3 := HCB.out w3 b13)
      | (go_at_call 49; (with_reducible refine (CU'.out _ b13).mono ?_); rintro e w9 ⟨rfl, b9⟩; have b19 := b13.trans (b9.mono b13.size); have c9 := HCB.out w9 b19)
      | (go_at_call 51; (with_reducible refine (CM.out _ b19).mono ?_); rintro e w10 ⟨rfl, k10, hw10⟩; have b20 : Below W.heap.size W w10 := (by rw [hw10]; exact below_drewN b19 _); have c10 := HCB.out w10 b20; have hd10 : Below w9.heap.size w9 w10 := (by rw [hw10]; exact below_dr _ _ _); clear hw10)
      | fail)
    go_ret
    exact ⟨rfl, HB.out.trans (b20.mono HB.out.size)⟩
set_option maxRecDepth 100000 in
set_option maxHeartbeats 8000000 in
theorem grid_b_ok (h h' : Hd) (m : Int) (w : World) (hh : RowOk w h) (hh' : RowOk w h') (hE : unE h.Z = 0) (hmw : (Lit.int .i64 m).wf = true) (hm : m < 1 ∨ 12 < m) (hE' : unE h'.Z = 0) (hM : meetB h.Z h'.Z = false) :
    Calls Try.prog 8 #[h.v, h'.v, .int .i64 m] w fun e w' => e = .returned (.bool true) ∧ Below w.heap.size w w' := by
  obtain ⟨B, hB⟩ : ∃ B, w.heap.size = B := ⟨_, rfl⟩
  obtain ⟨W, hW⟩ : ∃ W, w.alloc (.cells #[h.v] 59) = W := ⟨_, rfl⟩
  have hbW : Below w.heap.size w W := by rw [← hW]; exact (Below.refl _ w).alloc (Nat.le_refl _) _
  have hcW : W.cell? ⟨B, 0, none⟩ = some h.v := by rw [← hW, ← hB]; simp [World.cell?_alloc_new]
  have hsW : B < W.heap.size := World.block_lt_of_cell? _ _ hcW
  have CP := Lib.hid (fun X (hX : Below W.heap.size W X) => grid_Powers_arg h m X ((hh.below hbW).below hX) hE hm)
  have CC := Lib.hid (fun X (hX : Below W.heap.size W X) => grid_Crossed h h' X ((hh.below hbW).below hX) ((hh'.below hbW).below hX) hE hE' hM)
  have CU := Lib.hid (fun X (hX : Below W.heap.size W X) => ref_Unlike h X ((hh.below hbW).below hX))
  have CU' := Lib.hid (fun X (hX : Below W.heap.size W X) => ref_Unlike h' X ((hh'.below hbW).below hX))
  have CM := Lib.hid (fun X (hX : Below W.heap.size W X) => meets 52 (.inr rfl) h' h B X ((hh'.below hbW).below hX) ((hh.below hbW).below hX) ((hX.cell (World.block_lt_of_cell? _ _ hcW)).trans hcW) (fun x W => by go_simp))
  have HB : Hid (Below w.heap.size w W) := hbW
  have HCB := Lib.hid (fun X (hX : Below W.heap.size W X) => (hX.cell (World.block_lt_of_cell? _ _ hcW)).trans hcW)
  have CS := Lib.hid (fun (S T : List Hd) (a b : Nat) ao bo ca cb X h1 h2 => sameRows_u8 S T a b ao bo ca cb X h1 h2)
  rw [hE] at CU
  rw [hE'] at CU'
  rw [meetB_symm, hM] at CM
  obtain ⟨n, hn⟩ : ∃ n, h.Z.length = n := ⟨_, rfl⟩
  have hn0 := unE_lt hE
  have HBY : Hid (∀ z ∈ h.Z, z < 256) := hh.byte
  have HR : Hid (Reads W h.A (u8s h.Z)) := (hh.below hbW).reads
  obtain ⟨A, C, Z⟩ := h
  have m1 := hh.cap
  have m2 := hh.max
  have m3 := hh.none
  obtain ⟨A', C', Y⟩ := h'
  obtain ⟨m', hm'⟩ : ∃ m', Y.length = m' := ⟨_, rfl⟩
  have m1' := hh'.cap
  have m2' := hh'.max
  have m3' := hh'.none
  have HBY' : Hid (∀ z ∈ Y, z < 256) := hh'.byte
  have HR' : Hid (Reads W A' (u8s Y)) := (hh'.below hbW).reads
  have HN : Hid (Z.length = n) := hn
  have HM : Hid (Y.length = m') := hm'
  simp only at hn m1 m2 m3 hn0 m1' m2' m3' hm'
  unfold Hd.v at CP CC CU CU' CM HCB hW ⊢
  simp only at CP CC CU CU' CM HCB HR HBY hW ⊢
  simp only [hn, hm'] at CP CC CU CU' CM HCB hW m1 m3 hn0 m1' m3' ⊢
  have c0 := HCB.out W (Below.refl _ _)
  have hdis : Hid (unE Y = 0) := hE'
  have hm0 : 0 < m' ∧ m' ≤ 12 := by rw [← hm']; exact unE_lt hE'
  cases A' with
  | none => have := m3' rfl; omega
  | some ad' =>
  cases A with
  | none => have := m3 rfl; omega
  | some ad =>
  clear hh hh' hbW hcW hE m3 m3' hn hm' hE' hM
  rcases Int.lt_or_le m 1 with q1 | q1
  all_goals
    try (have q2 : 12 < m := by omega)
    go_enter Try.func8, Try.ntmps8
    go_wp2_with (first
      | (go_at_call 47; (with_reducible refine (CP.out _ (Below.refl _ _)).mono ?_); rintro e w1 ⟨rfl, b1⟩; have c1 := HCB.out w1 b1)
      | (go_at_call 48; (with_reducible refine (CC.out _ b1).mono ?_); rintro e w2 ⟨aC, cC, TC, rfl, tC, zC, b2⟩; have b12 := b1.trans (b2.mono b1.size); have c2 := HCB.out w2 b12)
      | (go_at_call 49; (with_reducible refine (CU.out _ b12).mono ?_); rintro e w3 ⟨rfl, b3⟩; have b13 := b12.trans (b3.mono b12.size); have c3 := HCB.out w3 b13)
      | (go_at_call 49; (with_reducible refine (CU'.out _ b13).mono ?_); rintro e w9 ⟨rfl, b9⟩; have b19 := b13.trans (b9.mono b13.size); have c9 := HCB.out w9 b19)
      | (go_at_call 51; (with_reducible refine (CM.out _ b19).mono ?_); rintro e w10 ⟨rfl, k10, hw10⟩; have b20 : Below W.heap.size W w10 := (by rw [hw10]; exact below_drewN b19 _); have c10 := HCB.out w10 b20; have hd10 : Below w9.heap.size w9 w10 := (by rw [hw10]; exact below_dr _ _ _); clear hw10)
      | fail)
    have hTC2 := Lib.hid (((tC.below b3).below b9).below hd10)
    have hZC := Lib.hid zC
    clear tC zC
    have bWB2 : Hid (Below W.heap.size W w10) := b20
    obtain ⟨WC, hWC⟩ : ∃ WC, w10 = WC := ⟨_, rfl⟩
    rw [hWC] at bWB2 hTC2 c10 ⊢
    clear hWC b20 b19
    go_loopw [17, 119] (fun va vi wr => ∃ (i : Nat) (T : List Hd), vi = .int .i64 i ∧ i ≤ n ∧ Hid (TabB wr WC.heap.size 59 va i T) ∧ Hid (zof T = (Z.take i).map fun x => Y.map fun y => ginv (x ^^^ y)) ∧ Hid (Below WC.heap.size WC wr)) (fun _ vi _ => n - (intOf vi).toNat)
    case atStart => exact ⟨0, [], rfl, by omega, tabB_nil _ _ _, Lib.hid (by simp [zof]), Below.refl _ _⟩
    case round =>
      obtain ⟨i, T, rfl, hi, hT, hZT, hb⟩ := hrel
      by_cases hin : i < n
      · obtain ⟨x, hx⟩ : ∃ x, Z[i]? = some x := ⟨Z[i]'(by rw [HN.out]; exact hin), List.getElem?_eq_getElem _⟩
        obtain ⟨bz, oz, hbo, hc⟩ := ((HR.out.below bWB2.out).below hb.out) i _ (u8s_get hx)
        cases hbo
        have hx256 := HBY.out x (List.mem_of_getElem? hx)
        have HX := Lib.hid hx
        have HXM := Lib.hid (List.mem_of_getElem? hx)
        have i0 : (0 : Int) ≤ (i : Int) := by omega
        have i1 : (i : Int) < (n : Int) := by omega
        clear hx
        obtain ⟨wo, rfl⟩ : ∃ wo, wo = wr := ⟨_, rfl⟩
        go_wp2_with fail
        go_loopw [20, 125] (fun vr vk wr2 => ∃ (k : Nat), vk = .int .i64 k ∧ k ≤ m' ∧ Hid (wr2.ownsRow wo.heap.size 5 1 vr k (u8s ((Y.take k).map fun y => ginv (x ^^^ y)))) ∧ Hid (Below wo.heap.size wo wr2)) (fun _ vk _ => m' - (intOf vk).toNat)
        case atStart => exact ⟨0, rfl, by omega, by exact World.ownsRow_nil _ _ _ _, Below.refl _ _⟩
        case round =>
          clear hc
          obtain ⟨k, rfl, hk, hO, hb2⟩ := hrel
          by_cases hkm : k < m'
          · obtain ⟨y, hy⟩ : ∃ y, Y[k]? = some y := ⟨Y[k]'(by rw [HM.out]; exact hkm), List.getElem?_eq_getElem _⟩
            obtain ⟨by_, oy, hbo, hc2⟩ := (((HR'.out.below bWB2.out).below hb.out).below hb2.out) k _ (u8s_get hy)
            cases hbo
            have hy256 := HBY'.out y (List.mem_of_getElem? hy)
            obtain ⟨z, hz⟩ : ∃ z, x ^^^ y = z := ⟨_, rfl⟩
            have hz256 : z < 256 := by rw [← hz]; exact xor_lt256 hx256 hy256
            have ex : bits .xor .u8 (x : Int) (y : Int) = (z : Int) := by rw [u8_xor_nat x y hx256 hy256, hz]
            have hP := Lib.hid (fun W => ref_Undo z W hz256)
            have k0 : (0 : Int) ≤ (k : Int) := by omega
            have HE : Hid (u8s ((Y.take (k + 1)).map fun y => ginv (x ^^^ y)) = u8s ((Y.take k).map fun y => ginv (x ^^^ y)) ++ [.int .u8 (ginv z : Nat)]) := by
              show _ = _
              rw [List.take_add_one, hy, List.map_append, u8s_append, ← hz]; rfl
            clear hy hz
            have k1 : (k : Int) < (m' : Int) := by omega
            go_wp2_with (first
              | (go_at_call 54; refine (hP.out _).mono ?_; rintro e w5 ⟨rfl, k5, hw5⟩; have hO5 : Hid (w5.ownsRow wo.heap.size 5 1 _ k (u8s ((Y.take k).map fun y => ginv (x ^^^ y)))) := Lib.hid (by rw [hw5]; exact own_below hO.out (below_dr _ _ _)); have hb5 : Hid (Below wo.heap.size wo w5) := Lib.hid (by rw [hw5]; exact below_drewN hb2.out _); clear hw5)
              | (at_builtin; go_must (refine app_one2 rfl (.tmp 129) (.tmp 134) 59 rfl wo.heap.size 5 _ 1 1 Try.underlying59 u8Info _ k (u8s ((Y.take k).map fun y => ginv (x ^^^ y))) (by rfl) hO5.out [.int .u8 (ginv z : Nat)] (by rfl) rfl (by intro u hu; simp at hu; subst hu; rfl) (by unfold maxLen; omega) (by omega) hb5.out.size ?_); intro v6 w6 hown6 hgr6 hb6 hvb; rw [← HE.out] at hown6; have hO6 := Lib.hid hown6; have hb7 := Lib.hid (hb5.out.trans hb6))
              | fail)
            clear hown6 hgr6 hb6 hvb
            go_roundw
            case rel => exact ⟨k + 1, by go_num, by omega, hO6, hb7⟩
            case measure => simp [intOf]; omega
          · obtain rfl : m' = k := by omega
            obtain ⟨g7, c7, rfl, hr7, hl7, hg7, _⟩ := row_made hO.out (fun z hz => by obtain ⟨y, hy, rfl⟩ := List.mem_map.1 hz; exact ginv_lt (xor_lt256 hx256 (HBY'.out y (List.mem_of_mem_take hy)))) (by omega)
            have hT7 := Lib.hid (hT.out.below hb2.out)
            have hB7 := Lib.hid (hb.out.trans (hb2.out.mono hb.out.size))
            have hap := hT.out.apart hg7 (cap := c7) (Z := (Y.take m').map fun y => ginv (x ^^^ y))
            go_wp2_with (first
              | (at_builtin; go_must (refine app_one2 rfl (.tmp 137) (.tmp 139) 51 rfl WC.heap.size 59 _ 1 24 Try.underlying51 rowsInfo _ i (T.map Hd.v) (by rfl) hT7.out.top [.slice (some ⟨g7, 0, none⟩) m' c7] (by rfl) rfl (by intro u hu; simp at hu; subst hu; rfl) (by unfold maxLen; omega) (by omega) hB7.out.size ?_); intro v8 w8 hown8 hgr8 hb8 hvb8; have X := TabB.push (x := ⟨some ⟨g7, 0, none⟩, c7, (Y.take m').map fun y => ginv (x ^^^ y)⟩) hT7.out hr7 (by simp only; omega) hap hgr8 (by unfold Hd.v at hown8 ⊢; simp only; rw [hl7]; exact hown8) hvb8; have hT8 := Lib.hid X; have hB8 := Lib.hid (hB7.out.trans hb8); clear X)
              | fail)
            have hZ8 : Hid (zof (T ++ [(⟨some ⟨g7, 0, none⟩, c7, (Y.take m').map fun y => ginv (x ^^^ y)⟩ : Hd)]) = (Z.take (i + 1)).map fun x => Y.map fun y => ginv (x ^^^ y)) := Lib.hid (by
              rw [show zof (T ++ [(⟨some ⟨g7, 0, none⟩, c7, (Y.take m').map fun y => ginv (x ^^^ y)⟩ : Hd)]) = zof T ++ [(Y.take m').map fun y => ginv (x ^^^ y)] by simp [zof], hZT.out, List.take_add_one, HX.out, List.map_append]
              rw [← HM.out, List.take_length]; rfl)
            clear hown8 hgr8 hb8 hvb8 hr7 hl7 hap
            go_roundw
            case rel => exact ⟨i + 1, _, by go_num, by omega, hT8, hZ8, hB8⟩
            case measure => simp [intOf]; omega
      · obtain rfl : n = i := by omega
        have hZall : Hid (zof T = Z.map fun x => Y.map fun y => ginv (x ^^^ y)) := Lib.hid (by rw [hZT.out, ← HN.out, List.take_length])
        obtain ⟨aT, cT, rfl, tT, _, _, _⟩ := hT.out.tab
        clear hT hZT
        have hTC3 := hTC2.out.below hb.out
        have BB2 : Below W.heap.size W wr := bWB2.out.trans (hb.out.mono bWB2.out.size)
        have hsm : zof TC = zof T := by rw [hZC.out, hZall.out]
        have CSy := Lib.hid (CS.out TC T n n aC aT cC cT wr hTC3 tT)
        rw [decide_eq_true hsm] at CSy
        clear hsm tT hTC3 hZall
        go_wp2_with (first
          | (go_at_call 41; (with_reducible refine CSy.out.mono ?_); rintro e w11 ⟨rfl, k11, rfl⟩)
          | fail)
        go_ret
        exact ⟨rfl, HB.out.trans ((below_drewN BB2 _).mono HB.out.size)⟩
end Go.Proofs.Ytgdcmebhopjfaaa
