/- MatrixSolves: the law's walk, part wide. (Printed by wip/tools/gen_mats.py.) -/
import Derived.Test.YtgdcmebhopjfaaaMatrixS0
namespace Go.Proofs.Ytgdcmebhopjfaaa
open Go.RowKit

set_option maxRecDepth 100000 in
set_option maxHeartbeats 8000000 in
theorem solves_bad (S : List Hd) (b : Hd) (n : Nat) (ao : Option Addr) (ca : Nat) (w : World) (hS : TabIn w ao n S) (hb : RowOk w b) (hE : tabE (zof S) ≠ 0) :
    Calls Try.prog 7 #[.slice ao n ca, b.v] w fun e w' => e = .returned (.bool true) ∧ Below w.heap.size w w' := by
  have CI := Lib.hid (fun X (hX : Below w.heap.size w X) => matrix_Inverse_bad S n 0 (tabE (zof S)) ao ca X (hS.below hX) (.inl ⟨rfl, hE⟩))
  have CV := Lib.hid (fun X (hX : Below w.heap.size w X) => matrix_Solve_bad S b n (tabE (zof S)) ao ca X (hS.below hX) (hb.below hX) (.inl ⟨rfl, hE⟩))
  have CE := Lib.hid (fun X (hX : Below w.heap.size w X) => wholeref_TableErr S n ao ca X (hS.below hX))
  obtain ⟨E, hEq⟩ : ∃ E, tabE (zof S) = E := ⟨_, rfl⟩
  rw [hEq] at CI CV CE hE
  have hne : (E != 0) = true := bne_iff_ne.2 hE
  unfold Hd.v at CV ⊢
  clear hS hb hEq hE
  go_enter Try.func7, Try.ntmps7
  go_wp2_with (first
    | (go_at_call 43; (with_reducible refine (CI.out _ (Below.refl _ _)).mono ?_); rintro e w1 ⟨rfl, b1⟩)
    | (go_at_call 44; (with_reducible refine (CV.out _ b1).mono ?_); rintro e w2 ⟨rfl, b2⟩; have q2 := b1.trans (b2.mono b1.size))
    | (go_at_call 37; (with_reducible refine (CE.out _ q2).mono ?_); rintro e w3 ⟨rfl, b3⟩; have q3 := q2.trans (b3.mono q2.size))
    | fail)
  go_ret
  exact ⟨rfl, q3⟩
set_option maxRecDepth 100000 in
set_option maxHeartbeats 16000000 in
theorem solves_wide_form (S : List Hd) (b : Hd) (n C : Nat) (ao : Option Addr) (ca : Nat) (w : World) (hS : TabIn w ao n S) (hE : tabE (zof S) = 0) (oS : TabOk (zof S) n C) (hC : C ≤ 12) (hb : RowOk w b) (hnC : n ≠ C) (hl : b.Z.length ≠ n) :
    Calls Try.prog 7 #[.slice ao n ca, b.v] w fun e w' => e = .returned (.bool true) ∧ Below w.heap.size w w' := by
  have CI := Lib.hid (fun X (hX : Below w.heap.size w X) => matrix_Inverse_bad S n C 3 ao ca X (hS.below hX) (.inr (.inl ⟨hE, oS, hnC, rfl⟩)))
  have CV := Lib.hid (fun X (hX : Below w.heap.size w X) => matrix_Solve_bad S b n 3 ao ca X (hS.below hX) (hb.below hX) (.inr ⟨hE, hl, rfl⟩))
  have CE := Lib.hid (fun X (hX : Below w.heap.size w X) => wholeref_TableErr S n ao ca X (hS.below hX))
  rw [hE] at CE
  obtain ⟨A, hA⟩ : ∃ A, matM (zof S) = A := ⟨_, rfl⟩
  have FT := hS.fix oS
  have r1 := oS.r1
  have r2 := oS.r12
  have r3 := oS.c1
  rw [hA] at FT
  obtain ⟨b0, o0, rfl, FT⟩ := FT
  have HT := Lib.hid FT
  obtain ⟨b1, o1, c1, k1, k2, hG⟩ := FT 0 r1
  have HF := Lib.hid (fun X hX => (hG X hX).1)
  simp only [Nat.add_zero] at HF
  obtain ⟨lb, hlb⟩ : ∃ lb, b.Z.length = lb := ⟨_, rfl⟩
  rw [hlb] at hl
  unfold Hd.v at CV ⊢
  rw [hlb] at CV ⊢
  have zl : ((lb : Int) != (n : Int)) = true := by simp; omega
  have z1 : (0 : Int) < (n : Int) := by omega
  have z2 : ((n : Int) != (C : Int)) = true := by simp; omega
  clear hS hE oS hb FT hG hnC hl hlb
  have HA := Lib.hid hA
  clear hA
  go_enter Try.func7, Try.ntmps7
  go_wp2_with (first
    | (go_at_call 43; (with_reducible refine (CI.out _ (Below.refl _ _)).mono ?_); rintro e w1 ⟨rfl, b1⟩)
    | (go_at_call 44; (with_reducible refine (CV.out _ b1).mono ?_); rintro e w2 ⟨rfl, b2⟩; have q2 := b1.trans (b2.mono b1.size))
    | (go_at_call 37; (with_reducible refine (CE.out _ q2).mono ?_); rintro e w3 ⟨rfl, b3⟩; have q3 := q2.trans (b3.mono q2.size); have x3 := HF.out w3 q3)
    | fail)
  go_ret
  exact ⟨rfl, q3⟩
set_option maxRecDepth 100000 in
set_option maxHeartbeats 16000000 in
theorem solves_wide_none (S : List Hd) (b : Hd) (n C : Nat) (ao : Option Addr) (ca : Nat) (w : World) (hS : TabIn w ao n S) (hE : tabE (zof S) = 0) (oS : TabOk (zof S) n C) (hC : C ≤ 12) (hb : RowOk w b) (hnC : n ≠ C) (hl : b.Z.length = n) (hdep : ¬ Dep n (wideG (matM (zof S)) (bbF b.Z) C) C) :
    Calls Try.prog 7 #[.slice ao n ca, b.v] w fun e w' => e = .returned (.bool true) ∧ Below w.heap.size w w' := by
  have CI := Lib.hid (fun X (hX : Below w.heap.size w X) => matrix_Inverse_bad S n C 3 ao ca X (hS.below hX) (.inr (.inl ⟨hE, oS, hnC, rfl⟩)))
  have CV := Lib.hid (fun X (hX : Below w.heap.size w X) => matrix_Solve S b (bbF b.Z) n C ao ca X (hS.below hX) hE oS hC (hb.below hX) (bbF_row hb hl))
  have CE := Lib.hid (fun X (hX : Below w.heap.size w X) => wholeref_TableErr S n ao ca X (hS.below hX))
  rw [hE] at CE
  have CR := Lib.hid (fun X (hX : Below w.heap.size w X) => ref_TableRank S n C ao ca X (hS.below hX) oS)
  have CRW := Lib.hid (fun (TW : List Hd) aW cW X (h : TabIn X aW n TW) (hz : zof TW = ofM n (C + 1) (wideG (matM (zof S)) (bbF b.Z) C)) => ref_TableRank TW n (C + 1) aW cW X h (by rw [hz]; exact ofM_ok _ oS.r1 oS.r12 (by omega) (by omega)))
  have HRW : Hid (∀ (TW : List Hd), zof TW = ofM n (C + 1) (wideG (matM (zof S)) (bbF b.Z) C) → rkG n (matM (zof TW)) (C + 1) = rkG n (matM (zof S)) C + 1) := fun TW hz => by
    have e1 : SN n (C + 1) (matM (zof TW)) (wideG (matM (zof S)) (bbF b.Z) C) := SN.of_eq fun i hi j hj => by rw [hz, matM_ofM _ hi hj]
    rw [rkG_congr e1]
    rw [rkG_not hdep, rkG_wide (fun i _ j hj => by unfold wideG besG; rw [if_pos hj])]
  obtain ⟨A, hA⟩ : ∃ A, matM (zof S) = A := ⟨_, rfl⟩
  have FT := hS.fix oS
  have r1 := oS.r1
  have r2 := oS.r12
  have r3 := oS.c1
  rw [hA] at FT CV CR CRW HRW hdep
  obtain ⟨b0, o0, rfl, FT⟩ := FT
  have HT := Lib.hid FT
  obtain ⟨b1, o1, c1, k1, k2, hG⟩ := FT 0 r1
  have HF := Lib.hid (fun X hX => (hG X hX).1)
  simp only [Nat.add_zero] at HF
  obtain ⟨bb, hbb⟩ : ∃ bb, bbF b.Z = bb := ⟨_, rfl⟩
  have hbZ := bbF_row hb hl
  rw [hbb] at hbZ CV CRW HRW hdep
  obtain ⟨R, hR⟩ : ∃ R, rkG n A C = R := ⟨_, rfl⟩
  rw [hR] at CR HRW
  obtain ⟨Ab, cb, Z⟩ := b
  simp only at hbZ
  subst hbZ
  have hl2 : ((List.range n).map fun i => (bb i).val).length = n := by simp
  have m1 := hb.cap
  have m2 := hb.max
  have m3 := hb.reads
  simp only at m1 m2 m3
  rw [hl2] at m1
  rw [u8s_gv] at m3
  obtain ⟨p1, p2, hAb, _⟩ := m3 0 _ (rowF_get _ r1)
  subst hAb
  have HBR : Hid (∀ X, Below w.heap.size w X → ∀ i, i < n → X.cell? ⟨p1, p2 + i, none⟩ = some (.int .u8 ((bb i).val : Int))) := fun X hX i hi => by
    obtain ⟨q1, q2, e1, e2⟩ := (m3.below hX) i _ (rowF_get (fun i => gv (bb i)) hi)
    cases e1
    exact e2
  unfold Hd.v at CV ⊢
  simp only at CV ⊢
  rw [hl2] at CV ⊢
  have z1 : (0 : Int) < (n : Int) := by omega
  have z2 : ((n : Int) != (C : Int)) = true := by simp; omega
  have HDEP := Lib.hid hdep
  clear hS hE oS hb FT hG hnC hl hl2 m3 hR hbb hdep
  have HA := Lib.hid hA
  clear hA
  go_enter Try.func7, Try.ntmps7
  go_wp2_with (first
    | (go_at_call 43; (with_reducible refine (CI.out _ (Below.refl _ _)).mono ?_); rintro e w1 ⟨rfl, b1⟩)
    | (go_at_call 44; (with_reducible refine (CV.out _ b1).mono ?_); rintro e w2 ⟨hj1, hpost, b2⟩; clear hj1; obtain rfl := hpost HDEP.out; clear hpost; have q2 := b1.trans (b2.mono b1.size))
    | (go_at_call 37; (with_reducible refine (CE.out _ q2).mono ?_); rintro e w3 ⟨rfl, b3⟩; have q3 := q2.trans (b3.mono q2.size); have x3 := HF.out w3 q3)
    | (at_make; have HQ := Lib.hid q3; clear q3; refine make_own rfl _ _ 51 rfl w3.heap.size 59 _ 24 Try.underlying51 rowsInfo rfl _ _ _ _ n (by rfl) (by rfl) rfl rfl (by omega) (by unfold maxLen; omega) (Nat.le_refl _) ?_; intro w7 hown hg7; have hB7 := Lib.hid (below_of_grown hg7 (Nat.le_refl w3.heap.size) (by intro k hk; cases hk)); have hR7 : Hid (Rag w7 w3.heap.size 59 5 w3.heap.size n 0 (fun _ => ⟨none, 0, []⟩) (.slice none 0 0) 0 []) := Rag.start hown _; clear hown hg7)
    | fail)
  go_loopw [147] (fun vi wr => ∃ (i : Nat) (H : Nat → Hd), vi = .int .i64 i ∧ i ≤ n ∧ Hid (Rag wr w3.heap.size 59 5 w3.heap.size n i H (.slice none 0 0) 0 []) ∧ Hid (∀ j, j < i → (H j).Z = (List.range (C + 1)).map fun t => (wideG A bb C j t).val) ∧ Hid (Below w3.heap.size w3 wr)) (fun vi _ => n - (intOf vi).toNat)
  case atStart => exact ⟨0, _, rfl, by omega, hR7, Lib.hid (fun j hj => by omega), hB7⟩
  case round =>
    clear hR7 hB7
    obtain ⟨i, H, rfl, hi, hR, hH, hb3⟩ := hrel
    by_cases hin : i < n
    · have HBi : Hid (Below w.heap.size w wr) := HQ.out.trans (hb3.out.mono HQ.out.size)
      obtain ⟨b', o', c', hd2, hd3, hF⟩ := HT.out i hin
      have d1 := (hF wr HBi.out).1
      have y1 := HBR.out wr HBi.out i hin
      have CC : Hid (∀ X, Below wr.heap.size wr X → Calls Try.prog 45 #[.slice (some ⟨b', o', none⟩) C c'] X fun e w' => ∃ v wX, e = .returned v ∧ wX = X ∧ Below wr.heap.size wr wX ∧ w'.ownsRow wX.heap.size 5 1 v C (rowF C fun j => gv (A i j)) ∧ Below wX.heap.size wX w') := fun X hX => by
        refine (clone_u8 C (rowF C fun j => gv (A i j)) (some ⟨b', o', none⟩) c' X.heap.size X (by omega) (rowF_length _ _) (fun h => by cases h) (Lib.hid (fun j u hu => by
          have hj : j < C := by have := (List.getElem?_eq_some_iff.1 hu).1; rw [rowF_length] at this; exact this
          rw [rowF_get _ hj] at hu
          cases hu
          exact ⟨b', o', rfl, (hX.cell (World.block_lt_of_cell? _ _ ((hF wr HBi.out).2 j hj))).trans ((hF wr HBi.out).2 j hj)⟩)) (Lib.hid (rowF_one fun j => rfl)) (Nat.le_refl _)).mono ?_
        rintro e w' ⟨v, h1, h2, h3⟩
        exact ⟨v, X, h1, rfl, hX, h2, h3⟩
      have CBX : Hid (∀ X, Below wr.heap.size wr X → X.cell? ⟨p1, p2 + i, none⟩ = some (.int .u8 ((bb i).val : Int))) := fun X hX => (hX.cell (World.block_lt_of_cell? _ _ y1)).trans y1
      have CTX : Hid (∀ X, Below wr.heap.size wr X → X.cell? ⟨w3.heap.size, i, none⟩ = some (.slice none 0 0) ∧ X.frozen? ⟨w3.heap.size, i, none⟩ = false) := fun X hX => hR.out.row' hin hX
      obtain ⟨y, hy⟩ : ∃ y, (bb i).val = y := ⟨_, rfl⟩
      rw [hy] at y1 CBX
      have HY := Lib.hid hy
      have i0 : (0 : Int) ≤ (i : Int) := by omega
      have i1 : (i : Int) < (n : Int) := by omega
      have hm1 : Hid (C + 1 ≤ maxLen) := Lib.hid (by unfold maxLen; omega)
      have hm2 : Hid ((C + 1) * 1 ≤ 140737488355328) := Lib.hid (by omega)
      have ya := CBX.out (wr.alloc (.cells #[.int .u8 y] 5)) ((Below.refl _ wr).alloc (Nat.le_refl _) _)
      clear hy hF
      go_wp2_with fail
      go_region_law (first
        | (go_simp; go_at_call 45; (with_reducible refine (CC.out _ ?_).mono ?_); (focus (repeat (first | (with_reducible exact Below.refl _ _) | (with_reducible apply below_drew1) | (with_reducible apply below_drewN) | (with_reducible refine Below.alloc ?_ (by simp; try omega) _) | fail))); rintro e w8 ⟨v8, wX, rfl, hwX, bX, ho8, hb8⟩; have hb9 := bX.trans (hb8.mono bX.size); have hsz9 := hb9.size; have y8 := CBX.out w8 hb9; have HWX := Lib.hid hwX; have HBX := Lib.hid bX; have HO8 := Lib.hid ho8; have HB8 := Lib.hid hb8; clear hwX bX ho8 hb8 hb9)
        | (refine step_app_one ?_ (.tmp 155) (.tmp 160) 59 ?_ wX.heap.size 5 _ 1 1 Try.underlying59 u8Info _ C (rowF C fun j => gv (A i j)) ?_ w8 HO8.out wX HB8.out (Nat.le_refl _) ?_ ?_ #[.int .u8 y] ?_ ?_ rfl ?_ hm1.out hm2.out ?_; (focus rfl); (focus rfl); (focus rfl); (focus (repeat (first | (with_reducible exact Below.refl _ _) | (with_reducible apply below_drew1) | (with_reducible apply below_drewN) | (with_reducible refine Below.alloc ?_ (by simp; try omega) _) | fail))); rotate_left; (focus rfl); (focus (first | (refine (HB8.out.block _ (by rw [HWX.out]; simp)).trans ?_; rw [HWX.out]; repeat (first | (with_reducible exact heap_new' _ _ _ (by simp; try omega)) | (with_reducible apply heap_drew) | (with_reducible apply heap_drewN) | (with_reducible apply heap_alloc_old) | fail)) | (repeat (first | (with_reducible exact heap_new' _ _ _ (by simp; try omega)) | (with_reducible apply heap_drew) | (with_reducible apply heap_drewN) | (with_reducible apply heap_alloc_old) | fail)))); (focus (intro u hu; simp at hu; subst hu; rfl)); intro v9 w9 hown9 hb3; have hb10 := HBX.out.trans (hb3.mono HBX.out.size); obtain ⟨x9, f9⟩ := CTX.out w9 hb10; have HB10 := Lib.hid hb10; obtain ⟨g, cp, hv9, hok, hl9, hg9, _⟩ := row_made (Z := (List.range (C + 1)).map fun t => (wideG A bb C i t).val) (by rw [u8s_gv, rowF_snoc_wide]; unfold gv; rw [HY.out]; exact hown9) (fun z hz => by obtain ⟨y, _, rfl⟩ := List.mem_map.1 hz; exact GF.lt _) (Nat.succ_pos _); subst hv9; have HOK := Lib.hid hok; have HG9 := Lib.hid hg9; clear hok hg9 hl9 hb3 hb10 hown9)
        | fail)
      all_goals
        have hne : g ≠ w3.heap.size := by have k1 := hR.out.top.lt.2; have k2 := HG9.out; have k3 := HBX.out.size; omega
        have X := Rag.put (hR.out.below HB10.out) HOK.out (fun a ha e => by cases ha; exact hne e)
        have hv2 : (⟨some ⟨g, 0, none⟩, cp, (List.range (C + 1)).map fun t => (wideG A bb C i t).val⟩ : Hd).v = .slice (some ⟨g, 0, none⟩) (C + 1) cp := by unfold Hd.v; simp only [List.length_map, List.length_range]
        rw [hv2] at X
        have hR6 := Lib.hid X.1
        have hb7 : Hid (Below w3.heap.size w3 (w9.setCell ⟨w3.heap.size, i, none⟩ (.slice (some ⟨g, 0, none⟩) (C + 1) cp))) := Lib.hid ((hb3.out.trans (HB10.out.mono hb3.out.size)).grown X.2 ((hb3.out.trans (HB10.out.mono hb3.out.size)).size) (fun q hq => by cases hq; exact Nat.le_refl _))
        clear X hv2
        have hH2 : Hid (∀ j, j < i + 1 → (if j = i then (⟨some ⟨g, 0, none⟩, cp, (List.range (C + 1)).map fun t => (wideG A bb C i t).val⟩ : Hd) else H j).Z = (List.range (C + 1)).map fun t => (wideG A bb C j t).val) := Lib.hid (fun j hj => by
          by_cases he : j = i
          · rw [if_pos he, he]
          · rw [if_neg he]; exact hH.out j (by omega))
        go_wp2_with fail
        go_roundw
        case rel => exact ⟨i + 1, _, by go_num, by omega, hR6, hH2, hb7⟩
        case measure => simp [intOf]; omega
    · obtain rfl : n = i := by omega
      have hT := hR.out.tab
      have hz : zof ((List.range n).map H) = ofM n (C + 1) (wideG A bb C) := by
        unfold zof ofM
        rw [List.map_map]
        exact List.map_congr_left fun j hj => hH.out j (List.mem_range.1 hj)
      have CW := Lib.hid (CRW.out _ _ n wr hT hz)
      rw [HRW.out _ hz] at CW
      clear hT hz hR hH
      have q9 := hb3.out
      have z5 : decide ((R : Int) < (R : Int)) = false := by simp
      have z6 : decide ((R : Int) < (R : Int) + 1) = true := by simp; omega
      clear hb3
      go_wp2_with (first
        | (go_at_call 39; (with_reducible refine CW.out.mono ?_); rintro e w10 ⟨rfl, b10⟩; have q10 := q9.trans (b10.mono q9.size))
        | (go_at_call 39; (with_reducible refine (CR.out _ (HQ.out.trans (q10.mono HQ.out.size))).mono ?_); rintro e w11 ⟨rfl, b11⟩; have q11 := q10.trans (b11.mono q10.size); have x11 := HF.out w11 (HQ.out.trans (q11.mono HQ.out.size)))
        | fail)
      go_ret
      exact ⟨rfl, HQ.out.trans (q11.mono HQ.out.size)⟩
set_option maxRecDepth 100000 in
set_option maxHeartbeats 16000000 in
theorem solves_wide_ok (S : List Hd) (b : Hd) (n C : Nat) (ao : Option Addr) (ca : Nat) (w : World) (hS : TabIn w ao n S) (hE : tabE (zof S) = 0) (oS : TabOk (zof S) n C) (hC : C ≤ 12) (hb : RowOk w b) (hnC : n ≠ C) (hl : b.Z.length = n) (hdep : Dep n (wideG (matM (zof S)) (bbF b.Z) C) C) :
    Calls Try.prog 7 #[.slice ao n ca, b.v] w fun e w' => e = .returned (.bool true) ∧ Below w.heap.size w w' := by
  have CI := Lib.hid (fun X (hX : Below w.heap.size w X) => matrix_Inverse_bad S n C 3 ao ca X (hS.below hX) (.inr (.inl ⟨hE, oS, hnC, rfl⟩)))
  have CV := Lib.hid (fun X (hX : Below w.heap.size w X) => matrix_Solve S b (bbF b.Z) n C ao ca X (hS.below hX) hE oS hC (hb.below hX) (bbF_row hb hl))
  have CE := Lib.hid (fun X (hX : Below w.heap.size w X) => wholeref_TableErr S n ao ca X (hS.below hX))
  rw [hE] at CE
  have CR := Lib.hid (fun X (hX : Below w.heap.size w X) => ref_TableRank S n C ao ca X (hS.below hX) oS)
  have CRW := Lib.hid (fun (TW : List Hd) aW cW X (h : TabIn X aW n TW) (hz : zof TW = ofM n (C + 1) (wideG (matM (zof S)) (bbF b.Z) C)) => ref_TableRank TW n (C + 1) aW cW X h (by rw [hz]; exact ofM_ok _ oS.r1 oS.r12 (by omega) (by omega)))
  have HRW : Hid (∀ (TW : List Hd), zof TW = ofM n (C + 1) (wideG (matM (zof S)) (bbF b.Z) C) → rkG n (matM (zof TW)) (C + 1) = rkG n (matM (zof S)) C) := fun TW hz => by
    have e1 : SN n (C + 1) (matM (zof TW)) (wideG (matM (zof S)) (bbF b.Z) C) := SN.of_eq fun i hi j hj => by rw [hz, matM_ofM _ hi hj]
    rw [rkG_congr e1]
    rw [rkG_dep hdep, rkG_wide (fun i _ j hj => by unfold wideG besG; rw [if_pos hj])]
  obtain ⟨A, hA⟩ : ∃ A, matM (zof S) = A := ⟨_, rfl⟩
  have FT := hS.fix oS
  have r1 := oS.r1
  have r2 := oS.r12
  have r3 := oS.c1
  rw [hA] at FT CV CR CRW HRW hdep
  obtain ⟨b0, o0, rfl, FT⟩ := FT
  have HT := Lib.hid FT
  obtain ⟨b1, o1, c1, k1, k2, hG⟩ := FT 0 r1
  have HF := Lib.hid (fun X hX => (hG X hX).1)
  simp only [Nat.add_zero] at HF
  obtain ⟨bb, hbb⟩ : ∃ bb, bbF b.Z = bb := ⟨_, rfl⟩
  have hbZ := bbF_row hb hl
  rw [hbb] at hbZ CV CRW HRW hdep
  obtain ⟨R, hR⟩ : ∃ R, rkG n A C = R := ⟨_, rfl⟩
  rw [hR] at CR HRW
  obtain ⟨Ab, cb, Z⟩ := b
  simp only at hbZ
  subst hbZ
  have hl2 : ((List.range n).map fun i => (bb i).val).length = n := by simp
  have m1 := hb.cap
  have m2 := hb.max
  have m3 := hb.reads
  simp only at m1 m2 m3
  rw [hl2] at m1
  rw [u8s_gv] at m3
  obtain ⟨p1, p2, hAb, _⟩ := m3 0 _ (rowF_get _ r1)
  subst hAb
  have HBR : Hid (∀ X, Below w.heap.size w X → ∀ i, i < n → X.cell? ⟨p1, p2 + i, none⟩ = some (.int .u8 ((bb i).val : Int))) := fun X hX i hi => by
    obtain ⟨q1, q2, e1, e2⟩ := (m3.below hX) i _ (rowF_get (fun i => gv (bb i)) hi)
    cases e1
    exact e2
  unfold Hd.v at CV ⊢
  simp only at CV ⊢
  rw [hl2] at CV ⊢
  have z1 : (0 : Int) < (n : Int) := by omega
  have z2 : ((n : Int) != (C : Int)) = true := by simp; omega
  have HDEP := Lib.hid hdep
  clear hS hE oS hb FT hG hnC hl hl2 m3 hR hbb hdep
  have HA := Lib.hid hA
  clear hA
  go_enter Try.func7, Try.ntmps7
  go_wp2_with (first
    | (go_at_call 43; (with_reducible refine (CI.out _ (Below.refl _ _)).mono ?_); rintro e w1 ⟨rfl, b1⟩)
    | (go_at_call 44; (with_reducible refine (CV.out _ b1).mono ?_); rintro e w2 ⟨hpost, hj2, b2⟩; clear hj2; obtain ⟨gx, cx, x, rfl, hxr, hxe⟩ := hpost HDEP.out; clear hpost; have q2 := b1.trans (b2.mono b1.size))
    | (go_at_call 37; (with_reducible refine (CE.out _ q2).mono ?_); rintro e w3 ⟨rfl, b3⟩; have q3 := q2.trans (b3.mono q2.size); have x3 := HF.out w3 q3)
    | (at_make; have HQ := Lib.hid q3; have hxr3 := Lib.hid (hxr.below b3); have HXE := Lib.hid hxe; clear hxr hxe; clear q3; refine make_own rfl _ _ 51 rfl w3.heap.size 59 _ 24 Try.underlying51 rowsInfo rfl _ _ _ _ n (by rfl) (by rfl) rfl rfl (by omega) (by unfold maxLen; omega) (Nat.le_refl _) ?_; intro w7 hown hg7; have hB7 := Lib.hid (below_of_grown hg7 (Nat.le_refl w3.heap.size) (by intro k hk; cases hk)); have hR7 : Hid (Rag w7 w3.heap.size 59 5 w3.heap.size n 0 (fun _ => ⟨none, 0, []⟩) (.slice none 0 0) 0 []) := Rag.start hown _; clear hown hg7)
    | fail)
  go_loopw [147] (fun vi wr => ∃ (i : Nat) (H : Nat → Hd), vi = .int .i64 i ∧ i ≤ n ∧ Hid (Rag wr w3.heap.size 59 5 w3.heap.size n i H (.slice none 0 0) 0 []) ∧ Hid (∀ j, j < i → (H j).Z = (List.range (C + 1)).map fun t => (wideG A bb C j t).val) ∧ Hid (Below w3.heap.size w3 wr)) (fun vi _ => n - (intOf vi).toNat)
  case atStart => exact ⟨0, _, rfl, by omega, hR7, Lib.hid (fun j hj => by omega), hB7⟩
  case round =>
    clear hR7 hB7
    obtain ⟨i, H, rfl, hi, hR, hH, hb3⟩ := hrel
    by_cases hin : i < n
    · have HBi : Hid (Below w.heap.size w wr) := HQ.out.trans (hb3.out.mono HQ.out.size)
      obtain ⟨b', o', c', hd2, hd3, hF⟩ := HT.out i hin
      have d1 := (hF wr HBi.out).1
      have y1 := HBR.out wr HBi.out i hin
      have CC : Hid (∀ X, Below wr.heap.size wr X → Calls Try.prog 45 #[.slice (some ⟨b', o', none⟩) C c'] X fun e w' => ∃ v wX, e = .returned v ∧ wX = X ∧ Below wr.heap.size wr wX ∧ w'.ownsRow wX.heap.size 5 1 v C (rowF C fun j => gv (A i j)) ∧ Below wX.heap.size wX w') := fun X hX => by
        refine (clone_u8 C (rowF C fun j => gv (A i j)) (some ⟨b', o', none⟩) c' X.heap.size X (by omega) (rowF_length _ _) (fun h => by cases h) (Lib.hid (fun j u hu => by
          have hj : j < C := by have := (List.getElem?_eq_some_iff.1 hu).1; rw [rowF_length] at this; exact this
          rw [rowF_get _ hj] at hu
          cases hu
          exact ⟨b', o', rfl, (hX.cell (World.block_lt_of_cell? _ _ ((hF wr HBi.out).2 j hj))).trans ((hF wr HBi.out).2 j hj)⟩)) (Lib.hid (rowF_one fun j => rfl)) (Nat.le_refl _)).mono ?_
        rintro e w' ⟨v, h1, h2, h3⟩
        exact ⟨v, X, h1, rfl, hX, h2, h3⟩
      have CBX : Hid (∀ X, Below wr.heap.size wr X → X.cell? ⟨p1, p2 + i, none⟩ = some (.int .u8 ((bb i).val : Int))) := fun X hX => (hX.cell (World.block_lt_of_cell? _ _ y1)).trans y1
      have CTX : Hid (∀ X, Below wr.heap.size wr X → X.cell? ⟨w3.heap.size, i, none⟩ = some (.slice none 0 0) ∧ X.frozen? ⟨w3.heap.size, i, none⟩ = false) := fun X hX => hR.out.row' hin hX
      obtain ⟨y, hy⟩ : ∃ y, (bb i).val = y := ⟨_, rfl⟩
      rw [hy] at y1 CBX
      have HY := Lib.hid hy
      have i0 : (0 : Int) ≤ (i : Int) := by omega
      have i1 : (i : Int) < (n : Int) := by omega
      have hm1 : Hid (C + 1 ≤ maxLen) := Lib.hid (by unfold maxLen; omega)
      have hm2 : Hid ((C + 1) * 1 ≤ 140737488355328) := Lib.hid (by omega)
      have ya := CBX.out (wr.alloc (.cells #[.int .u8 y] 5)) ((Below.refl _ wr).alloc (Nat.le_refl _) _)
      clear hy hF
      go_wp2_with fail
      go_region_law (first
        | (go_simp; go_at_call 45; (with_reducible refine (CC.out _ ?_).mono ?_); (focus (repeat (first | (with_reducible exact Below.refl _ _) | (with_reducible apply below_drew1) | (with_reducible apply below_drewN) | (with_reducible refine Below.alloc ?_ (by simp; try omega) _) | fail))); rintro e w8 ⟨v8, wX, rfl, hwX, bX, ho8, hb8⟩; have hb9 := bX.trans (hb8.mono bX.size); have hsz9 := hb9.size; have y8 := CBX.out w8 hb9; have HWX := Lib.hid hwX; have HBX := Lib.hid bX; have HO8 := Lib.hid ho8; have HB8 := Lib.hid hb8; clear hwX bX ho8 hb8 hb9)
        | (refine step_app_one ?_ (.tmp 155) (.tmp 160) 59 ?_ wX.heap.size 5 _ 1 1 Try.underlying59 u8Info _ C (rowF C fun j => gv (A i j)) ?_ w8 HO8.out wX HB8.out (Nat.le_refl _) ?_ ?_ #[.int .u8 y] ?_ ?_ rfl ?_ hm1.out hm2.out ?_; (focus rfl); (focus rfl); (focus rfl); (focus (repeat (first | (with_reducible exact Below.refl _ _) | (with_reducible apply below_drew1) | (with_reducible apply below_drewN) | (with_reducible refine Below.alloc ?_ (by simp; try omega) _) | fail))); rotate_left; (focus rfl); (focus (first | (refine (HB8.out.block _ (by rw [HWX.out]; simp)).trans ?_; rw [HWX.out]; repeat (first | (with_reducible exact heap_new' _ _ _ (by simp; try omega)) | (with_reducible apply heap_drew) | (with_reducible apply heap_drewN) | (with_reducible apply heap_alloc_old) | fail)) | (repeat (first | (with_reducible exact heap_new' _ _ _ (by simp; try omega)) | (with_reducible apply heap_drew) | (with_reducible apply heap_drewN) | (with_reducible apply heap_alloc_old) | fail)))); (focus (intro u hu; simp at hu; subst hu; rfl)); intro v9 w9 hown9 hb3; have hb10 := HBX.out.trans (hb3.mono HBX.out.size); obtain ⟨x9, f9⟩ := CTX.out w9 hb10; have HB10 := Lib.hid hb10; obtain ⟨g, cp, hv9, hok, hl9, hg9, _⟩ := row_made (Z := (List.range (C + 1)).map fun t => (wideG A bb C i t).val) (by rw [u8s_gv, rowF_snoc_wide]; unfold gv; rw [HY.out]; exact hown9) (fun z hz => by obtain ⟨y, _, rfl⟩ := List.mem_map.1 hz; exact GF.lt _) (Nat.succ_pos _); subst hv9; have HOK := Lib.hid hok; have HG9 := Lib.hid hg9; clear hok hg9 hl9 hb3 hb10 hown9)
        | fail)
      all_goals
        have hne : g ≠ w3.heap.size := by have k1 := hR.out.top.lt.2; have k2 := HG9.out; have k3 := HBX.out.size; omega
        have X := Rag.put (hR.out.below HB10.out) HOK.out (fun a ha e => by cases ha; exact hne e)
        have hv2 : (⟨some ⟨g, 0, none⟩, cp, (List.range (C + 1)).map fun t => (wideG A bb C i t).val⟩ : Hd).v = .slice (some ⟨g, 0, none⟩) (C + 1) cp := by unfold Hd.v; simp only [List.length_map, List.length_range]
        rw [hv2] at X
        have hR6 := Lib.hid X.1
        have hb7 : Hid (Below w3.heap.size w3 (w9.setCell ⟨w3.heap.size, i, none⟩ (.slice (some ⟨g, 0, none⟩) (C + 1) cp))) := Lib.hid ((hb3.out.trans (HB10.out.mono hb3.out.size)).grown X.2 ((hb3.out.trans (HB10.out.mono hb3.out.size)).size) (fun q hq => by cases hq; exact Nat.le_refl _))
        clear X hv2
        have hH2 : Hid (∀ j, j < i + 1 → (if j = i then (⟨some ⟨g, 0, none⟩, cp, (List.range (C + 1)).map fun t => (wideG A bb C i t).val⟩ : Hd) else H j).Z = (List.range (C + 1)).map fun t => (wideG A bb C j t).val) := Lib.hid (fun j hj => by
          by_cases he : j = i
          · rw [if_pos he, he]
          · rw [if_neg he]; exact hH.out j (by omega))
        go_wp2_with fail
        go_roundw
        case rel => exact ⟨i + 1, _, by go_num, by omega, hR6, hH2, hb7⟩
        case measure => simp [intOf]; omega
    · obtain rfl : n = i := by omega
      have hT := hR.out.tab
      have hz : zof ((List.range n).map H) = ofM n (C + 1) (wideG A bb C) := by
        unfold zof ofM
        rw [List.map_map]
        exact List.map_congr_left fun j hj => hH.out j (List.mem_range.1 hj)
      have CW := Lib.hid (CRW.out _ _ n wr hT hz)
      rw [HRW.out _ hz] at CW
      clear hT hz hR hH
      have q9 := hb3.out
      have z5 : decide ((R : Int) < (R : Int)) = false := by simp
      have z6 : decide ((R : Int) < (R : Int) + 1) = true := by simp; omega
      clear hb3
      go_wp2_with (first
        | (go_at_call 39; (with_reducible refine CW.out.mono ?_); rintro e w10 ⟨rfl, b10⟩; have q10 := q9.trans (b10.mono q9.size))
        | (go_at_call 39; (with_reducible refine (CR.out _ (HQ.out.trans (q10.mono HQ.out.size))).mono ?_); rintro e w11 ⟨rfl, b11⟩; have q11 := q10.trans (b11.mono q10.size); have x11 := HF.out w11 (HQ.out.trans (q11.mono HQ.out.size)))
        | fail)
      have HXR : Hid (∀ X, Below w3.heap.size w3 X → ∀ k, k < C → X.cell? ⟨gx, k, none⟩ = some (.int .u8 ((x k).val : Int))) := fun X hX k hk => by
        have h1 := hxr3.out.reads
        simp only at h1
        rw [u8s_gv] at h1
        obtain ⟨q1, q2, e1, e2⟩ := (h1.below hX) k _ (rowF_get (fun i => gv (x i)) hk)
        cases e1
        rw [Nat.zero_add] at e2
        exact e2
      have Q11 := Lib.hid q11
      clear q9 q10 q11 b10 b11 CW z5 z6
      go_loopw [189] (fun vi wr => ∃ i : Nat, vi = .int .i64 i ∧ i ≤ n ∧ Hid (Below w3.heap.size w3 wr)) (fun vi _ => n - (intOf vi).toNat)
      case atStart => exact ⟨0, rfl, by omega, Q11⟩
      case round =>
        clear x11 Q11
        obtain ⟨i, rfl, hi, hb4⟩ := hrel
        obtain ⟨wo, rfl⟩ : ∃ wo, wo = wr := ⟨_, rfl⟩
        have HBo : Hid (Below w.heap.size w wo) := HQ.out.trans (hb4.out.mono HQ.out.size)
        by_cases hin : i < n
        · obtain ⟨b', o', c', hd2, hd3, hF⟩ := HT.out i hin
          have HRD := Lib.hid hF
          have d1 := (hF wo HBo.out).1
          have i0 : (0 : Int) ≤ (i : Int) := by omega
          have i1 : (i : Int) < (n : Int) := by omega
          clear hF
          go_wp2_with fail
          go_loopw [19, 196] (fun vx vk wr => ∃ k : Nat, vk = .int .i64 k ∧ k ≤ C ∧ vx = .int .u8 ((sumG (fun t => A i t * x t) k).val : Int) ∧ Hid (Below wo.heap.size wo wr)) (fun _ vk _ => C - (intOf vk).toNat)
          case atStart => exact ⟨0, rfl, by omega, rfl, Below.refl _ _⟩
          case round =>
            clear d1
            obtain ⟨k, rfl, hk, rfl, hb5⟩ := hrel
            have HBk : Hid (Below w3.heap.size w3 wr) := hb4.out.trans (hb5.out.mono hb4.out.size)
            have HBm : Hid (Below w.heap.size w wr) := HQ.out.trans (HBk.out.mono HQ.out.size)
            by_cases hkc : k < C
            · have d2 := (HRD.out wr HBm.out).2 k hkc
              have d4 := HXR.out wr HBk.out k hkc
              obtain ⟨p, hp⟩ : ∃ p, (sumG (fun t => A i t * x t) k).val = p := ⟨_, rfl⟩
              obtain ⟨u, hu⟩ : ∃ u, (A i k).val = u := ⟨_, rfl⟩
              obtain ⟨q, hq⟩ : ∃ q, (x k).val = q := ⟨_, rfl⟩
              have pb : p < 256 := by rw [← hp]; exact GF.lt _
              have ub : u < 256 := by rw [← hu]; exact GF.lt _
              have qb : q < 256 := by rw [← hq]; exact GF.lt _
              rw [hu] at d2
              rw [hq] at d4
              obtain ⟨r, hr⟩ : ∃ r, gmul u q = r := ⟨_, rfl⟩
              have rb : r < 256 := by rw [← hr]; exact gmul_lt ub
              obtain ⟨s, hs⟩ : ∃ s : Nat, p ^^^ r = s := ⟨_, rfl⟩
              have e1 : bits .xor .u8 (p : Int) (r : Int) = (s : Int) := by rw [u8_xor_nat p r pb rb, hs]
              have CM := Lib.hid (fun W => ref_Times u q W ub qb)
              rw [hr] at CM
              have hval : Hid ((sumG (fun t => A i t * x t) (k + 1)).val = s) := Lib.hid (by show (sumG (fun t => A i t * x t) k + A i k * x k).val = s; rw [GF.add_val, GF.mul_val, hp, hu, hq, hr, hs])
              have k0' : (0 : Int) ≤ (k : Int) := by omega
              have k1' : (k : Int) < (C : Int) := by omega
              rw [hp]
              clear hp hu hq hr hs
              go_wp2_with (go_at_call 46; (with_reducible refine (CM.out _).mono ?_); rintro e w6 ⟨rfl, m6, rfl⟩)
              go_roundw
              case rel => exact ⟨k + 1, by go_num, by omega, by rw [hval.out], below_drewN hb5.out _⟩
              case measure => simp [intOf]; omega
            · obtain rfl : C = k := by omega
              have y1 := HBR.out wr HBm.out i hin
              rw [HXE.out i hin]
              obtain ⟨y, hy⟩ : ∃ y, (bb i).val = y := ⟨_, rfl⟩
              rw [hy] at y1 ⊢
              have e1 : ((y : Int) != (y : Int)) = false := by simp
              have i0 : (0 : Int) ≤ (i : Int) := by omega
              clear hy
              go_wp2_with fail
              go_roundw
              case rel => exact ⟨i + 1, by go_num, by omega, HBk⟩
              case measure => simp [intOf]; omega
        · obtain rfl : n = i := by omega
          go_wp2_with fail
          go_ret
          exact ⟨rfl, HBo.out⟩
end Go.Proofs.Ytgdcmebhopjfaaa
