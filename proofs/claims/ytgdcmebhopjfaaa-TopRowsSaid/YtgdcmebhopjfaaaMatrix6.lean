/- matrix.Inverse and matrix.Solve. -/
import Derived.Test.YtgdcmebhopjfaaaMatrix5
import Derived.Test.YtgdcmebhopjfaaaConcatB
namespace Go.Proofs.Ytgdcmebhopjfaaa
open Go.RowKit

theorem matrix_Inverse_bad (T : List Hd) (n C : Nat) (E : Int) (ao : Option Addr) (ca : Nat) (w : World) (hT : TabIn w ao n T)
    (hE : (tabE (zof T) = E ∧ E ≠ 0) ∨ (tabE (zof T) = 0 ∧ TabOk (zof T) n C ∧ n ≠ C ∧ E = 3) ∨ (tabE (zof T) = 0 ∧ TabOk (zof T) n n ∧ detG n (matM (zof T)) = 0 ∧ E = 5)) :
    Calls Try.prog 43 #[.slice ao n ca] w (TabBad E w) := by
  rcases hE with ⟨h1, h2⟩ | ⟨h1, h2, h3, rfl⟩ | ⟨h1, h2, h3, rfl⟩
  · have CD := Lib.hid (matrix_Det_bad T n ao ca w hT (by rw [h1]; exact h2))
    have hne : (E != 0) = true := bne_iff_ne.2 h2
    rw [h1] at CD
    clear h1 h2 hT
    go_enter Try.func43, Try.ntmps43
    go_wp2_with (first | (go_at_call 36; (with_reducible refine CD.out.mono ?_); rintro e w1 ⟨rfl, b1⟩) | fail)
    go_ret2
    exact ⟨rfl, b1⟩
  · have CD := Lib.hid (matrix_Det_form T n C ao ca w hT h1 h2 h3)
    clear h1 h2 h3 hT
    go_enter Try.func43, Try.ntmps43
    go_wp2_with (first | (go_at_call 36; (with_reducible refine CD.out.mono ?_); rintro e w1 ⟨rfl, b1⟩) | fail)
    go_ret2
    exact ⟨rfl, b1⟩
  · have CD := Lib.hid (matrix_Det T n ao ca w hT h1 h2)
    rw [h3] at CD
    have hz : ((0 : GF).val : Int) = 0 := rfl
    rw [hz] at CD
    clear h1 h2 h3 hT hz
    go_enter Try.func43, Try.ntmps43
    go_wp2_with (first | (go_at_call 36; (with_reducible refine CD.out.mono ?_); rintro e w1 ⟨rfl, b1⟩) | fail)
    go_ret2
    exact ⟨rfl, b1⟩
/-- Beside one another. -/
def besG (A B : Mt) (n : Nat) : Mt := fun i j => if j < n then A i j else B i (j - n)
theorem rowF_bes (A B : Mt) (i n m : Nat) : rowF (n + m) (fun j => gv (besG A B n i j)) = rowF n (fun j => gv (A i j)) ++ rowF m (fun j => gv (B i j)) := by
  apply List.ext_getElem?
  intro j
  by_cases h : j < n
  · rw [rowF_get _ (by omega), List.getElem?_append_left (by rw [rowF_length]; exact h), rowF_get _ h]
    unfold besG
    rw [if_pos h]
  · rw [List.getElem?_append_right (by rw [rowF_length]; omega), rowF_length]
    by_cases h2 : j < n + m
    · rw [rowF_get _ h2, rowF_get _ (by omega)]
      unfold besG
      rw [if_neg h]
    · rw [List.getElem?_eq_none (by rw [rowF_length]; omega), List.getElem?_eq_none (by rw [rowF_length]; omega)]
/-- slices.Concat of two rows. -/
theorem concat_rows (A B : Mt) (i n m : Nat) (a b : Addr) (ca cb X : Nat) (w : World) (h1 : 1 ≤ n) (h2 : n + m ≤ 1000)
    (hc0 : w.cell? ⟨X, 0, none⟩ = some (.slice (some a) n ca)) (hc1 : w.cell? ⟨X, 1, none⟩ = some (.slice (some b) m cb)) (hu : Reads w (some a) (rowF n fun j => gv (A i j))) (hv : Reads w (some b) (rowF m fun j => gv (B i j))) :
    Calls Try.prog 113 #[.slice (some ⟨X, 0, none⟩) 2 2] w fun e w' => ∃ g cp, e = .returned (.slice (some ⟨g, 0, none⟩) (n + m) cp) ∧ Own w' w.heap.size 5 g (n + m) cp (fun j => gv (besG A B n i j)) ∧ Below w.heap.size w w' := by
  have hA : (colZ n (A i)).map (Value.int .u8) = rowF n (fun j => gv (A i j)) := colZ_row n (A i)
  have hB : (colZ m (B i)).map (Value.int .u8) = rowF m (fun j => gv (B i j)) := colZ_row m (B i)
  refine (concat_twoB (colZ n (A i)) (colZ m (B i)) n m (some a) (some b) ca cb X w (colZ_len _ _) (colZ_len _ _) h1 (by omega) (fun h => by cases h) (fun h => by cases h) hc0 hc1 (Lib.hid (by rw [hA]; exact hu)) (Lib.hid (by rw [hB]; exact hv))).mono ?_
  rintro e w' ⟨v, rfl, hown, hb⟩
  rw [List.length_append, colZ_len, colZ_len, List.map_append, hA, hB, ← rowF_bes] at hown
  obtain ⟨g, cp, rfl⟩ := own_form hown (fun e => by have := congrArg List.length e; rw [rowF_length, List.length_nil] at this; omega)
  exact ⟨g, cp, rfl, hown, hb⟩
def unitG : Mt := fun i j => if i = j then 1 else 0
set_option maxRecDepth 100000 in
set_option maxHeartbeats 16000000 in
theorem matrix_Inverse (T : List Hd) (n : Nat) (ao : Option Addr) (ca : Nat) (w : World) (hT : TabIn w ao n T) (hE : tabE (zof T) = 0) (oT : TabOk (zof T) n n) (hD : detG n (matM (zof T)) ≠ 0) :
    Calls Try.prog 43 #[.slice ao n ca] w fun e w' => ∃ a2 c2 T2 V, e = .returned (.tuple #[.slice a2 n c2, .int .i64 0]) ∧ TabIn w' a2 n T2 ∧ zof T2 = ofM n n V ∧ (∀ i, i < n → ∀ c, c < n → mulG V (matM (zof T)) n i c = if i = c then 1 else 0) ∧ Below w.heap.size w w' := by
  have CD := Lib.hid (matrix_Det T n ao ca w hT hE oT)
  obtain ⟨A, hA⟩ : ∃ A, matM (zof T) = A := ⟨_, rfl⟩
  have FT := hT.fix oT
  rw [hA] at FT CD hD ⊢
  have r1 := oT.r1
  have r2 := oT.r12
  obtain ⟨b0, o0, rfl, FT⟩ := FT
  have HT := Lib.hid FT
  obtain ⟨d, hd⟩ : ∃ d, (detG n A).val = d := ⟨_, rfl⟩
  rw [hd] at CD
  have hd0 : ((d : Int) == 0) = false := beq_eq_false_iff_ne.2 (fun e => hD (GF.ext (by rw [hd]; exact Int.ofNat.inj e)))
  have HDN := Lib.hid hD
  clear hT oT hA FT hE hd hD
  go_enter Try.func43, Try.ntmps43
  go_wp2_with (first | (go_at_call 36; (with_reducible refine CD.out.mono ?_); rintro e w1 ⟨rfl, b1⟩) | fail)
  have HB1 := Lib.hid b1
  clear b1 CD
  go_loopw [6, 28] (fun vo vi wr => ∃ (i : Nat) (gs cs : Nat → Nat), vi = .int .i64 i ∧ i ≤ n ∧ Hid (MatB wr w1.heap.size 59 5 vo i (n + n) gs cs (besG A unitG n)) ∧ Hid (Below w1.heap.size w1 wr)) (fun _ vi _ => n - (intOf vi).toNat)
  case atStart => exact ⟨0, fun _ => 0, fun _ => 0, rfl, by omega, matB_nil _ _ _ _ _ _ _ _, Below.refl _ _⟩
  case round =>
    obtain ⟨i, gs, cs, rfl, hi, hM, hb⟩ := hrel
    obtain ⟨wo, rfl⟩ : ∃ wo, wo = wr := ⟨_, rfl⟩
    have HBO : Hid (Below w.heap.size w wo) := HB1.out.trans (hb.out.mono HB1.out.size)
    by_cases hin : i < n
    · obtain ⟨b', o', c', hc2, hc3, hF⟩ := HT.out i hin
      have hc1 := (hF wo HBO.out).1
      have HF := Lib.hid hF
      have i0 : (0 : Int) ≤ (i : Int) := by omega
      have i1 : (i : Int) < (n : Int) := by omega
      clear hF
      go_wp2_with (first
        | (at_make; refine make_own rfl _ _ 59 rfl wo.heap.size 5 _ 1 Try.underlying59 u8Info rfl _ _ _ _ n (by rfl) (by rfl) rfl rfl (by omega) (by unfold maxLen; omega) (Nat.le_refl _) ?_; intro w3 hown hg3; have st := hown.store i (gv 1); have hB3 := below_of_grown hg3 (Nat.le_refl wo.heap.size) (by intro k hk; cases hk); have hB4 := Lib.hid (hown.belowStore hB3 (Nat.le_refl _) i (gv 1)); have hO4 : Hid (Own (w3.setCell ⟨wo.heap.size, i, none⟩ (gv 1)) wo.heap.size 5 wo.heap.size n n (fun j => gv (unitG i j))) := Lib.hid (st.1.congr (fun j _ => by
            unfold unitG
            by_cases h : j = i
            · rw [if_pos h, if_pos h.symm]
            · rw [if_neg h, if_neg (fun e => h e.symm)]; rfl)); have c0 := hown.cell hin; have f0 := hown.frozen i; clear st hown hB3 hg3)
        | fail)
      obtain ⟨Y, hY⟩ : ∃ Y, w3.setCell ⟨wo.heap.size, i, none⟩ (.int .u8 1) = Y := ⟨_, rfl⟩
      have hYs : Y.heap.size = w3.heap.size := by rw [← hY]; simp
      have hO4 := hO4
      have hB4 := hB4
      have e1 : gv 1 = .int .u8 1 := rfl
      rw [e1, hY] at hO4 hB4
      rw [hY, ← hYs]
      obtain ⟨Z, hZ⟩ : ∃ Z, Y.alloc (.cells #[.slice (some ⟨b', o', none⟩) n c', .slice (some ⟨wo.heap.size, 0, none⟩) n n] 59) = Z := ⟨_, rfl⟩
      have hYZ : Below Y.heap.size Y Z := by rw [← hZ]; exact (Below.refl _ Y).alloc (Nat.le_refl _) _
      have hR := reads_new Y #[Value.slice (some ⟨b', o', none⟩) n c', .slice (some ⟨wo.heap.size, 0, none⟩) n n] 59
      rw [hZ] at hR
      have k0 : Z.cell? ⟨Y.heap.size, 0, none⟩ = some (.slice (some ⟨b', o', none⟩) n c') := reads_cell0 hR (i := 0) rfl
      have k1 : Z.cell? ⟨Y.heap.size, 1, none⟩ = some (.slice (some ⟨wo.heap.size, 0, none⟩) n n) := reads_cell0 hR (i := 1) rfl
      have hBZ : Below wo.heap.size wo Z := hB4.out.trans (hYZ.mono hB4.out.size)
      have hBZ0 : Below w.heap.size w Z := HBO.out.trans (hBZ.mono HBO.out.size)
      have hra : Reads Z (some ⟨b', o', none⟩) (rowF n fun j => gv (A i j)) := fun j u hu => by
        have hj : j < n := by have := (List.getElem?_eq_some_iff.1 hu).1; rw [rowF_length] at this; exact this
        rw [rowF_get _ hj] at hu
        cases hu
        exact ⟨b', o', rfl, (HF.out Z hBZ0).2 j hj⟩
      have hrb : Reads Z (some ⟨wo.heap.size, 0, none⟩) (rowF n fun j => gv (unitG i j)) := (hO4.out.below hYZ).reads
      have CC := Lib.hid (concat_rows A unitG i n n ⟨b', o', none⟩ ⟨wo.heap.size, 0, none⟩ c' n Y.heap.size Z (by omega) (by omega) k0 k1 hra hrb)
      have hM4 := hM.out.below hBZ
      have hb4 := hb.out.trans (hBZ.mono hb.out.size)
      clear hR k0 k1 hra hrb hY hYZ c0 f0 hc1
      rw [hZ]
      clear hZ hYs
      go_at_call 113
      refine CC.out.mono ?_
      rintro e w5 ⟨g, cp, rfl, hown5, hb5⟩
      have hM5 := Lib.hid (hM4.below hb5)
      have hb6 := Lib.hid (hb4.trans (hb5.mono hb4.size))
      have hgn : ∀ j, j < i → gs j ≠ g := (fun j hj e => by have := (hM4.row j hj).lt.2; have := hown5.lt.1; omega)
      have hgv := hown5.lt.1
      have hown6 := own_mono hown5 hb4.size
      go_wp2_with (first
        | (at_builtin; go_must (refine app_one2 rfl (.tmp 39) (.tmp 44) 51 rfl w1.heap.size 59 _ 1 24 Try.underlying51 rowsInfo _ i (rowF i (hdv (n + n) gs cs)) (by rfl) hM5.out.top [.slice (some ⟨g, 0, none⟩) (n + n) cp] (by rfl) rfl (by intro u hu; simp at hu; subst hu; rfl) (by unfold maxLen; omega) (by omega) hb6.out.size ?_); intro v8 w8 hown8 hgr8 hb8 hvb8; have X := MatB.push (f := besG A unitG n i) hM5.out hown6 (fun e => by have := (World.ownsRow.lt hM4.top g e).2; omega) hgn hgr8 hown8 hvb8; have hM8 := Lib.hid X; have hB8 := Lib.hid (hb6.out.trans hb8); clear X)
        | fail)
      have hM9 := Lib.hid (hM8.out.congr (M' := besG A unitG n) (fun _ _ => rfl) (fun _ _ => rfl) (fun a ha j hj => by by_cases h : a = i; (rw [if_pos h, h]); (rw [if_neg h])))
      clear hown8 hgr8 hb8 hvb8 hown5 hown6 hgn hgv hM4 hb4 hb5 hBZ hBZ0
      go_roundw
      case rel => exact ⟨i + 1, _, _, by go_num, by omega, hM9, hB8⟩
      case measure => simp [intOf]; omega
    · obtain rfl : n = i := by omega
      obtain ⟨G, K, rfl, hMat⟩ := hM.out.mat r1
      have hBES := ofM_ok (R := n) (C := n + n) (besG A unitG n) r1 r2 (by omega) (by omega)
      have hzof : zof (hds n (n + n) gs cs (besG A unitG n)) = ofM n (n + n) (besG A unitG n) := by unfold zof hds ofM; rw [List.map_map]; rfl
      have CR := Lib.hid (matrix_reduced (hds n (n + n) gs cs (besG A unitG n)) n (n + n) n (some ⟨G, 0, none⟩) K wo hMat.tab (by rw [hzof]; exact hBES) (by omega))
      rw [hzof] at CR
      clear hM hMat hBES hzof
      go_wp2_with (first
        | (go_at_call 105; (with_reducible refine CR.out.mono ?_); rintro e w2 ⟨G2, K2, g2, c2, M, vp, r, p, det, rfl, hW, hR, hS, hK, hD, b2⟩; have hW2 := Lib.hid hW; have hR2 := Lib.hid hR; have hS2 := Lib.hid hS; have hD2 := Lib.hid hD; have hb2 := Lib.hid b2; clear hW hR hS hK hD b2)
        | (at_make; refine make_own rfl _ _ 51 rfl w2.heap.size 59 _ 24 Try.underlying51 rowsInfo rfl _ _ _ _ n (by rfl) (by rfl) rfl rfl (by omega) (by unfold maxLen; omega) (Nat.le_refl _) ?_; intro w3 hown hg3; have hB3 := Lib.hid (below_of_grown hg3 (Nat.le_refl w2.heap.size) (by intro k hk; cases hk)); have hR3 : Hid (Rag w3 w2.heap.size 59 5 w2.heap.size n 0 (fun _ => ⟨none, 0, []⟩) (.slice none 0 0) 0 []) := Rag.start hown _; clear hown hg3)
        | fail)
      have hDW : detG n (matM (ofM n (n + n) (besG A unitG n))) = detG n A := detG_congr fun i hi j hj => by
        rw [matM_ofM _ hi (by omega)]
        unfold besG
        rw [if_pos hj]
      have hrn : r = n := by
        have h1 := hR2.out.rR
        rcases Nat.lt_or_ge r n with h | h
        · exact absurd (hDW ▸ (det_of hR2.out hD2.out).1 h) HDN.out
        · omega
      have HINV : Hid (∀ i, i < n → ∀ c, c < n → mulG (fun i j => M i (n + j)) A n i c = if i = c then 1 else 0) := fun i hi c hc => by
        have hR3 := hR2.out
        rw [hrn] at hR3
        refine inv_ok (W := matM (ofM n (n + n) (besG A unitG n))) (fun i hi j hj => ?_) (fun i hi j hj => ?_) hS2.out (fun i hi c hc => hR3.unit i hi c hc) hi hc
        · rw [matM_ofM _ hi (by omega)]; unfold besG; rw [if_pos hj]
        · rw [matM_ofM _ hi (by omega)]; unfold besG; rw [if_neg (by omega), Nat.add_sub_cancel_left]; rfl
      have hWm := Lib.hid hW2.out.mat
      clear hW2 hDW hrn hD2 hR2 hS2
      go_loopw [60] (fun vi wr => ∃ (i : Nat) (H : Nat → Hd), vi = .int .i64 i ∧ i ≤ n ∧ Hid (Rag wr w2.heap.size 59 5 w2.heap.size n i H (.slice none 0 0) 0 []) ∧ Hid (∀ j, j < i → (H j).Z = (List.range n).map fun t => (M j (n + t)).val) ∧ Hid (Below w2.heap.size w2 wr)) (fun vi _ => n - (intOf vi).toNat)
      case atStart => exact ⟨0, _, rfl, by omega, hR3, Lib.hid (fun j hj => by omega), hB3⟩
      case round =>
        clear hR3 hB3
        obtain ⟨i, H, rfl, hi, hR, hH, hb3⟩ := hrel
        by_cases hin : i < n
        · have hM3 := hWm.out.below hb3.out
          have h1 := hM3.hdr hin
          have hcap := (hM3.row i hin).caps
          have hcap1 := hcap.1
          have hcap2 := hcap.2
          have CC := Lib.hid (clone_row n (fun t => M i (n + t)) (some ⟨g2 i, n, none⟩) (c2 i - n) wr r1 (by omega) (fun j u hu => by
            have hj : j < n := by have := (List.getElem?_eq_some_iff.1 hu).1; rw [rowF_length] at this; exact this
            rw [rowF_get _ hj] at hu
            cases hu
            exact ⟨g2 i, n, rfl, hM3.cell hin (by omega)⟩) (by intro h; cases h))
          have n1 : ¬ c2 i = n := by omega
          have n2 : (n : Int) ≤ ((n + n : Nat) : Int) := by omega
          have n3 : n ≤ n + n := by omega
          have n4 : n ≤ c2 i := by omega
          have n5 : n + n - n = n := by omega
          have i0 : (0 : Int) ≤ (i : Int) := by omega
          have i1 : (i : Int) < (n : Int) := by omega
          clear hcap hM3
          go_wp2_with (first
            | (go_at_call 45; refine CC.out.mono ?_; rintro e w5 ⟨g, cp, rfl, hown, hb5⟩; have hR5 := Lib.hid (hR.out.below hb5); have hb6 := Lib.hid (hb3.out.trans (hb5.mono hb3.out.size)); have x1 := hR5.out.cell hin; have f1 := hR5.out.frozen; obtain ⟨g', cp', hv', hok, hl', hg', _⟩ := row_made (Z := (List.range n).map fun t => (M i (n + t)).val) (by rw [u8s_gv]; exact hown) (fun z hz => by obtain ⟨y, _, rfl⟩ := List.mem_map.1 hz; exact GF.lt _) r1; cases hv'; have hne : g ≠ w2.heap.size := (fun e => by have := hR.out.top.lt.2; omega); have X := Rag.put hR5.out hok (fun a ha e => by cases ha; exact hne e); have hv2 : (⟨some ⟨g, 0, none⟩, cp, (List.range n).map fun t => (M i (n + t)).val⟩ : Hd).v = .slice (some ⟨g, 0, none⟩) n cp := (by unfold Hd.v; simp only; rw [hl']); rw [hv2] at X; have hR6 := Lib.hid X.1; have hb7 : Hid (Below w2.heap.size w2 (w5.setCell ⟨w2.heap.size, i, none⟩ (.slice (some ⟨g, 0, none⟩) n cp))) := Lib.hid (hb6.out.grown X.2 hb6.out.size (fun q hq => by cases hq; exact Nat.le_refl _)); clear X hv2 hok hl' hg' hown hb5 hne)
            | fail)
          have hH2 : Hid (∀ j, j < i + 1 → (if j = i then (⟨some ⟨g, 0, none⟩, cp, (List.range n).map fun t => (M i (n + t)).val⟩ : Hd) else H j).Z = (List.range n).map fun t => (M j (n + t)).val) := Lib.hid (fun j hj => by
            by_cases he : j = i
            · rw [if_pos he, he]
            · rw [if_neg he]; exact hH.out j (by omega))
          go_roundw
          case rel => exact ⟨i + 1, _, by go_num, by omega, hR6, hH2, hb7⟩
          case measure => simp [intOf]; omega
        · obtain rfl : n = i := by omega
          go_wp2_with fail
          go_ret2
          refine ⟨_, _, _, fun i j => M i (n + j), rfl, hR.out.tab, ?_, HINV.out, HBO.out.trans ((hb2.out.trans (hb3.out.mono hb2.out.size)).mono HBO.out.size)⟩
          unfold zof ofM
          rw [List.map_map]
          exact List.map_congr_left fun j hj => hH.out j (List.mem_range.1 hj)
end Go.Proofs.Ytgdcmebhopjfaaa
