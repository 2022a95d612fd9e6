/- matrix.reduced. -/
import Derived.Test.YtgdcmebhopjfaaaMatW
import Derived.Test.YtgdcmebhopjfaaaMatD
import Derived.Test.YtgdcmebhopjfaaaTrM4
import Derived.Test.YtgdcmebhopjfaaaMatrix2
import Derived.BigRegion
namespace Go.Proofs.Ytgdcmebhopjfaaa
open Go.RowKit

theorem intRow' : ElemRow Try.prog 3 (.int .i64 0) 1 8 := elemRow_of (by kernel_rfl) rfl (by omega)
/-- What reducing a table by its first nc columns leaves. -/
def RedPost (A : Mt) (n C nc : Nat) (w : World) (e : Ending) (w' : World) : Prop :=
  ∃ G K gs cs M vp r p det, e = .returned (.tuple #[.slice (some ⟨G, 0, none⟩) n K, vp, .int .u8 (det : GF).val]) ∧ RedW w' w.heap.size 59 5 3 G n C K gs cs M vp r p ∧
    Red n M r p nc ∧ SN n C A M ∧ rkG n A nc = r ∧ det * detG n M = detG n A ∧ Below w.heap.size w w'
set_option maxRecDepth 20000 in
theorem red_has (h : Hd) (b c : Nat) (w : World) (hc : w.cell? ⟨b, 0, none⟩ = some (.int .i64 (c : Int))) (hh : RowOk w h) (hl : c < h.Z.length) :
    Calls Try.prog 155 #[h.v, .pointer (some ⟨b, 0, none⟩)] w fun e w' => e = .returned (.bool (hasB c h)) ∧ ∃ m, w' = w.drewN m := by
  obtain ⟨x, hx⟩ : ∃ x, h.Z[c]? = some x := ⟨_, List.getElem?_eq_getElem hl⟩
  obtain ⟨b2, o2, hA, hcell⟩ := hh.reads c _ (u8s_get hx)
  have hb : Hid (hasB c h = ((x : Int) != 0)) := by
    show _ = _
    unfold hasB
    rw [List.getD_eq_getElem?_getD, hx]
    simp only [Option.getD_some]
    by_cases h0 : x = 0
    · subst h0; rfl
    · have : ¬ (x : Int) = 0 := by omega
      rw [show (x != 0) = true from bne_iff_ne.2 h0, show ((x : Int) != 0) = true from bne_iff_ne.2 this]
  have c0 : (0 : Int) ≤ (c : Int) := by omega
  have c1 : (c : Int) < (h.Z.length : Int) := by omega
  have m1 := hh.cap
  have m2 := hh.max
  obtain ⟨A, C, Z⟩ := h
  simp only at hA
  subst hA
  rw [hb.out]
  unfold Hd.v
  clear hh hx
  dsimp only at c1 m1 m2 ⊢
  obtain ⟨l, hlz⟩ : ∃ l, Z.length = l := ⟨_, rfl⟩
  rw [hlz] at c1 m1 ⊢
  clear hlz hb
  go_enter Try.func155, Try.ntmps155
  go_wp2_with fail
  go_ret
  exact ⟨rfl, 0, rfl⟩
theorem clone_row (n : Nat) (f : Nat → GF) (ao : Option Addr) (cap : Nat) (w : World) (h1 : 1 ≤ n) (hn : n ≤ 1000) (hR : Reads w ao (rowF n fun j => gv (f j))) (hno : ao ≠ none) :
    Calls Try.prog 45 #[.slice ao n cap] w fun e w' => ∃ g cp, e = .returned (.slice (some ⟨g, 0, none⟩) n cp) ∧ Own w' w.heap.size 5 g n cp (fun j => gv (f j)) ∧ Below w.heap.size w w' := by
  refine (clone_u8 n (rowF n fun j => gv (f j)) ao cap w.heap.size w (by omega) (by rw [rowF_length]) (fun h => absurd h hno) (Lib.hid hR) (Lib.hid (rowF_one fun j => gv_one _)) (Nat.le_refl _)).mono ?_
  rintro e w' ⟨v, rfl, hown, hb⟩
  obtain ⟨g, cp, rfl⟩ := own_form hown (fun e => by have := congrArg List.length e; rw [rowF_length, List.length_nil] at this; omega)
  exact ⟨g, cp, rfl, hown, hb⟩
theorem field_Mul_q (a b : Nat) (w : World) (ha : a < 256) (hb : b < 256) :
    Calls Try.prog 99 #[.int .u8 a, .int .u8 b] w fun e w' => e = .returned (.int .u8 (gmul a b : Nat)) ∧ ∃ m, w' = w.drewN m :=
  (field_Mul a b w ha hb).mono (by rintro e w' ⟨rfl, rfl⟩; exact ⟨rfl, 0, rfl⟩)
theorem field_Inv_q (a : Nat) (w : World) (ha : a < 256) (h0 : a ≠ 0) :
    Calls Try.prog 101 #[.int .u8 a] w fun e w' => e = .returned (.tuple #[.int .u8 (ginv a : Nat), .int .i64 0]) ∧ ∃ m, w' = w.drewN m :=
  (field_Inv a w ha h0).mono (by rintro e w' ⟨rfl, rfl⟩; exact ⟨rfl, 0, rfl⟩)
set_option maxRecDepth 100000 in
set_option maxHeartbeats 16000000 in
theorem matrix_reduced (T : List Hd) (n C nc : Nat) (ao : Option Addr) (ca : Nat) (w : World) (hT : TabIn w ao n T) (oT : TabOk (zof T) n C) (hnc : nc ≤ C) :
    Calls Try.prog 105 #[.slice ao n ca, .int .i64 nc] w (RedPost (matM (zof T)) n C nc w) := by
  obtain ⟨A, hA⟩ : ∃ A, matM (zof T) = A := ⟨_, rfl⟩
  have FT := hT.fix oT
  rw [hA] at FT ⊢
  have r1 := oT.r1
  have r2 := oT.r12
  have r3 := oT.c1
  have r4 := oT.c24
  obtain ⟨b0, o0, rfl, FT⟩ := FT
  have HT := Lib.hid FT
  clear hT oT hA FT
  go_enter Try.func105, Try.ntmps105
  go_wp2_with fail
  go_loopw [7, 26] (fun vo vi wr => ∃ (i : Nat) (gs cs : Nat → Nat), vi = .int .i64 i ∧ i ≤ n ∧ Hid (MatB wr w.heap.size 59 5 vo i C gs cs A) ∧ Hid (Below w.heap.size w wr)) (fun _ vi _ => n - (intOf vi).toNat)
  case atStart => exact ⟨0, fun _ => 0, fun _ => 0, rfl, by omega, matB_nil _ _ _ _ _ _ _ _, Below.refl _ _⟩
  case round =>
    obtain ⟨i, gs, cs, rfl, hi, hM, hb⟩ := hrel
    by_cases hin : i < n
    · obtain ⟨b', o', c', hc2, hc3, hF⟩ := HT.out i hin
      have hc1 := (hF wr hb.out).1
      have CC := Lib.hid (clone_row C (A i) (some ⟨b', o', none⟩) c' wr r3 (by omega) (fun j u hu => by
        have hj : j < C := by have := (List.getElem?_eq_some_iff.1 hu).1; rw [rowF_length] at this; exact this
        rw [rowF_get _ hj] at hu
        cases hu
        exact ⟨b', o', rfl, (hF wr hb.out).2 j hj⟩) (by intro h; cases h))
      have i0 : (0 : Int) ≤ (i : Int) := by omega
      have i1 : (i : Int) < (n : Int) := by omega
      clear hF
      go_wp2_with (first
        | (go_at_call 45; refine CC.out.mono ?_; rintro e w1 ⟨g, cp, rfl, hown, hb1⟩; have hM1 := Lib.hid (hM.out.below hb1); have hb2 := Lib.hid (hb.out.trans (hb1.mono hb.out.size)); have hgn : ∀ j, j < i → gs j ≠ g := (fun j hj e => by have := (hM.out.row j hj).lt.2; have := hown.lt.1; omega); have hgv := hown.lt.1)
        | (at_builtin; go_must (refine app_one2 rfl (.tmp 30) (.tmp 33) 51 rfl w.heap.size 59 _ 1 24 Try.underlying51 rowsInfo _ i (rowF i (hdv C gs cs)) (by rfl) hM1.out.top [.slice (some ⟨g, 0, none⟩) C cp] (by rfl) rfl (by intro u hu; simp at hu; subst hu; rfl) (by unfold maxLen; omega) (by omega) hb2.out.size ?_); intro v8 w8 hown8 hgr8 hb8 hvb8; have X := MatB.push (f := A i) hM1.out (own_mono hown hb.out.size) (fun e => by have := (World.ownsRow.lt hM.out.top g e).2; omega) hgn hgr8 hown8 hvb8; have hM8 := Lib.hid X; have hB8 := Lib.hid (hb2.out.trans hb8); clear X)
        | fail)
      have hM9 := Lib.hid (hM8.out.congr (M' := A) (fun _ _ => rfl) (fun _ _ => rfl) (fun a ha j hj => by by_cases h : a = i; (rw [if_pos h, h]); (rw [if_neg h])))
      clear hown8 hgr8 hb8 hvb8 hown hb1 hgn hgv hc1
      go_roundw
      case rel => exact ⟨i + 1, _, _, by go_num, by omega, hM9, hB8⟩
      case measure => simp [intOf]; omega
    · obtain rfl : n = i := by omega
      obtain ⟨G, K, rfl, hMat⟩ := hM.out.mat r1
      have HW0 : Hid (RedW wr w.heap.size 59 5 3 G n C K gs cs A (.slice none 0 0) 0 (fun _ => 0)) := ⟨hMat, World.ownsRow_nil _ _ _ _, (fun e => by cases e), (fun i hi e => by cases e)⟩
      have HGK := hMat.top.caps
      have hk1 := HGK.1
      have hk2 := HGK.2
      obtain ⟨w1, hw1⟩ : ∃ w1, wr = w1 := ⟨_, rfl⟩
      rw [hw1] at HW0 hb ⊢
      clear hM hMat HGK hw1 HT
      go_wp2_with fail
      go_loopw [10, 11, 37] (fun vp vd vc wr => ∃ (c r : Nat) (gs cs : Nat → Nat) (M : Mt) (p : Nat → Nat) (det : GF), vc = .int .i64 c ∧ c ≤ nc ∧ vd = .int .u8 (det.val : Int) ∧ r < n ∧ r ≤ c ∧
        Hid (RedW wr w.heap.size 59 5 3 G n C K gs cs M vp r p) ∧ Hid (Red n M r p c) ∧ Hid (SN n C A M) ∧ Hid (rkG n A c = r) ∧ Hid (det * detG n M = detG n A) ∧ Hid (Below w.heap.size w wr)) (fun _ _ vc _ => nc - (intOf vc).toNat)
      case atStart => exact ⟨0, 0, gs, cs, A, fun _ => 0, 1, rfl, by omega, rfl, by omega, by omega, HW0, Red.start _ _ _, SN.refl _ _ _, rfl, g_one_mul _, hb⟩
      case round =>
        clear HW0 hb
        obtain ⟨c, r, gs, cs, M, p, det, rfl, hc, rfl, hrn, hrc, hW, hR, hS, hK, hD, hb⟩ := hrel
        by_cases hcn : c < nc
        · obtain ⟨ap, cp, rfl, hRp, hnp, hp1, hp2⟩ := own_dataK hW.out.piv
          have hcC : c < C := by omega
          have z1 : (c : Int) < (nc : Int) := by omega
          have z2 : (0 : Int) ≤ (c : Int) := by omega
          have z3 : (r : Int) ≤ (n : Int) := by omega
          have z4 : (0 : Int) ≤ (r : Int) := by omega
          have z5 : (r : Int) ≤ (K : Int) := by omega
          have z6 : r ≤ K := by omega
          have z7 : ¬ K = r := by omega
          obtain ⟨W, hWe⟩ : ∃ W, wr.alloc (.cells #[.int .i64 c] 3) = W := ⟨_, rfl⟩
          obtain ⟨B, hB⟩ : ∃ B, wr.heap.size = B := ⟨_, rfl⟩
          have hbW : Below wr.heap.size wr W := by rw [← hWe]; exact (Below.refl _ wr).alloc (Nat.le_refl _) _
          have cB : W.cell? ⟨B, 0, none⟩ = some (.int .i64 c) := by rw [← hWe, ← hB]; simp [World.cell?_alloc_new]
          have hBW : Hid (B < W.heap.size) := World.block_lt_of_cell? _ _ cB
          have HBL : Hid (Below w.heap.size w W) := hb.out.trans (hbW.mono hb.out.size)
          have hgB : Hid (∀ i, i < n → gs i < B) := Lib.hid (fun i hi => by rw [← hB]; exact (hW.out.mat.row i hi).lt.2)
          have hGB : Hid (G < B) := by show _ < _; rw [← hB]; exact hW.out.mat.top.lt.2
          have hpB : Hid ((Value.slice ap r cp).ownBlock ≠ some B) := Lib.hid (fun e => by have := (World.ownsRow.lt hW.out.piv B e).2; omega)
          have hWW : Hid (RedW W w.heap.size 59 5 3 G n C K gs cs M (.slice ap r cp) r p) := hW.out.below hbW
          have CI := Lib.hid (indexFunc_tab 155 #[.pointer (some ⟨B, 0, none⟩)] (fun x W => by go_simp) (hasB c) ((hds n C gs cs M).drop r) (n - r) (some ⟨G, r, none⟩) (K - r) W (Lib.hid (hWW.out.mat.tab.tail r)) (by omega) (Lib.hid (fun h hh m => by
            have hm := List.mem_of_mem_drop hh
            have hok := hWW.out.mat.tab.rows h hm
            have hlen : h.Z.length = C := by
              unfold hds at hm
              obtain ⟨i, _, rfl⟩ := List.mem_map.1 hm
              simp
            exact (red_has h B c (W.drewN m) (show World.cell? _ _ = _ from cB) (hok.below (below_dr _ _ _)) (by omega)).mono (by rintro e w' ⟨rfl, k, rfl⟩; exact ⟨rfl, k, rfl⟩))))
          rcases idx_cases (R := n) (r := r) M c with h0 | ⟨k, hk1', hk2', hk3⟩
          · rw [idx_none hcC h0] at CI
            have hR2 := Lib.hid (hR.out.skip h0)
            have hK2 : Hid (rkG n A (c + 1) = r) := by
              show _ = _
              rw [rkG_dep ((hS.out.dep hcC).2 (hR.out.dep h0).1)]
              exact hK.out
            clear hbW h0 hW hb hR hK hRp hnp
            go_wp2_with (first
              | (go_at_call 154; refine CI.out.mono ?_; rintro e w2 ⟨rfl, m2, rfl⟩)
              | fail)
            go_roundw
            case rel => exact ⟨c + 1, r, gs, cs, M, p, det, by go_num, by omega, rfl, by omega, by omega, hWW.out.below (below_dr _ _ _), hR2, hS, hK2, hD, below_drewN HBL.out _⟩
            case measure => simp [intOf]; omega
          · rw [idx_some hcC hk1' hk2' hk3] at CI
            obtain ⟨q, hq⟩ : ∃ q, r + k = q := ⟨_, rfl⟩
            rw [hq] at hk1' hk2'
            have hqc : (r : Int) + (k : Int) = (q : Int) := by omega
            have wq : IntKind.i64.wrap ((r : Int) + (k : Int)) = (q : Int) := by rw [hqc]; exact IntWalk.i64_in _ (by omega)
            have hkn : ¬ (k : Int) < 0 := by omega
            have q0 : (0 : Int) ≤ (q : Int) := by omega
            have q1 : (q : Int) < (n : Int) := by omega
            have q2 : (r : Int) < (n : Int) := by omega
            have HQ := Lib.hid hq
            have HNE := Lib.hid hk2'
            clear hbW hW hb hRp hnp hk3 hq hk2'
            go_wp2_with (first
              | (go_at_call 154; refine CI.out.mono ?_; rintro e w2 ⟨rfl, m2, hw2⟩; have hW2 : Hid (RedW w2 w.heap.size 59 5 3 G n C K gs cs M (.slice ap r cp) r p) := Lib.hid (by rw [hw2]; exact hWW.out.below (below_dr _ _ _)); have hB2 : Hid (Below w.heap.size w w2) := Lib.hid (by rw [hw2]; exact below_drewN HBL.out _); have cB2 : w2.cell? ⟨B, 0, none⟩ = some (.int .i64 c) := (by rw [hw2]; exact cB); have hs2 : Hid (B < w2.heap.size) := Lib.hid (by rw [hw2]; exact hBW.out); have hG1 := hW2.out.mat.hdr hk1'; have hG2 := hW2.out.mat.hdr hrn; have fr1 := hW2.out.mat.top.frozen r; have fr2 := hW2.out.mat.top.frozen q; clear hw2 hWe cB hB)
              | fail)
            have hG3 : (w2.setCell ⟨G, r, none⟩ (.slice (some ⟨gs q, 0, none⟩) C (cs q))).cell? ⟨G, q, none⟩ = some (.slice (some ⟨gs q, 0, none⟩) C (cs q)) := by
              have h1 := (hW2.out.mat.top.store r (hdv C gs cs q)).1.cell hk1'
              unfold hdv at h1
              simpa using h1
            go_region
            have HW3 : Hid (RedW ((w2.setCell ⟨G, r, none⟩ (hdv C gs cs q)).setCell ⟨G, q, none⟩ (hdv C gs cs r)) w.heap.size 59 5 3 G n C K (swp gs r q) (swp cs r q) (swapR M r q) (.slice ap r cp) r p) := hW2.out.swap hrn hk1'
            have HB3 : Hid (Below w.heap.size w ((w2.setCell ⟨G, r, none⟩ (hdv C gs cs q)).setCell ⟨G, q, none⟩ (hdv C gs cs r))) := hW2.out.swapBelow hB2.out (Nat.le_refl _) _ _ _ _
            have cB3 : ((w2.setCell ⟨G, r, none⟩ (hdv C gs cs q)).setCell ⟨G, q, none⟩ (hdv C gs cs r)).cell? ⟨B, 0, none⟩ = some (.int .i64 c) := by
              have s1 := hW2.out.mat.top.store r (hdv C gs cs q)
              have s2 := s1.1.store q (hdv C gs cs r)
              have hne : some B ≠ some G := fun e => by injection e with e; have := hGB.out; omega
              exact s2.2.cell (s1.2.cell cB2 hne) hne
            have hg3 : Hid (∀ i, i < n → swp gs r q i < B) := Lib.hid (fun i hi => by unfold swp; split; (exact hgB.out _ hk1'); (split; (exact hgB.out _ hrn); (exact hgB.out _ hi)))
            unfold hdv at HW3 HB3 cB3
            generalize hX : World.setCell _ _ _ = X
            have HW4 : Hid (RedW X w.heap.size 59 5 3 G n C K (swp gs r q) (swp cs r q) (swapR M r q) (.slice ap r cp) r p) := by rw [← hX]; exact HW3
            have HB4 : Hid (Below w.heap.size w X) := by rw [← hX]; exact ⟨HB3.out.os, HB3.out.tape, HB3.out.output, HB3.out.size, HB3.out.block⟩
            have cB4 : X.cell? ⟨B, 0, none⟩ = some (.int .i64 c) := by rw [← hX]; exact cB3
            clear HW3 HB3 cB3 hX hG1 hG2 hG3 fr1 fr2 hW2 hB2 cB2 hgB CI hWW HBL
            obtain ⟨M1, hM1⟩ : ∃ M1, swapR M r q = M1 := ⟨_, rfl⟩
            obtain ⟨g1, hg1⟩ : ∃ g1, swp gs r q = g1 := ⟨_, rfl⟩
            obtain ⟨c1, hc1⟩ : ∃ c1, swp cs r q = c1 := ⟨_, rfl⟩
            rw [hM1, hg1, hc1] at HW4
            rw [hg1] at hg3
            have HM1 := Lib.hid hM1
            have hat : M1 r c = M q c := by rw [← hM1, swapR_at]
            have HAT := Lib.hid hat
            obtain ⟨x, hxv⟩ : ∃ x, (M1 r c).val = x := ⟨_, rfl⟩
            have hx256 : x < 256 := by rw [← hxv]; exact GF.lt _
            have hx0 : x ≠ 0 := by rw [← hxv, hat]; exact fun e => HNE.out (GF.ext e)
            obtain ⟨d, hdv'⟩ : ∃ d, det.val = d := ⟨_, rfl⟩
            have hd256 : d < 256 := by rw [← hdv']; exact GF.lt _
            have y1 := HW4.out.mat.hdr hrn
            have y2 := HW4.out.mat.cell hrn hcC
            unfold gv at y2
            rw [hxv] at y2
            have CD := Lib.hid (fun W => field_Mul_q d x W hd256 hx256)
            have CV := Lib.hid (fun W => field_Inv_q x W hx256 hx0)
            obtain ⟨d2, hd2⟩ : ∃ d2, gmul d x = d2 := ⟨_, rfl⟩
            obtain ⟨iv, hiv⟩ : ∃ iv, ginv x = iv := ⟨_, rfl⟩
            have hd2' : d2 < 256 := by rw [← hd2]; exact gmul_lt hd256
            have hiv' : iv < 256 := by rw [← hiv]; exact ginv_lt hx256
            rw [hd2] at CD
            rw [hiv] at CV
            have HD2 : Hid (d2 = (det * M1 r c).val) := by show _ = _; rw [GF.mul_val, hdv', hxv, hd2]
            have HIV : Hid (iv = ((M1 r c)⁻¹).val) := by show _ = _; rw [GF.inv_val, hxv, hiv]
            have cC : (c : Int) < (C : Int) := by omega
            rw [hdv']
            clear hM1 hg1 hc1 hat hxv hd2 hiv hx0 hdv'
            go_wp2_with fail
            go_quiet ((go_at_call 99; (first | (with_reducible exact quiet_on (fun W' => CD.out W')) | (with_reducible exact quiet_at (fun W' => CD.out W')) | exact CD.out _)))
            go_wp2_with fail
            go_quiet ((go_at_call 101; (first | (with_reducible exact quiet_on (fun W' => CV.out W')) | (with_reducible exact quiet_at (fun W' => CV.out W')) | exact CV.out _)))
            go_wp2_with fail
            obtain ⟨inv, hinv⟩ : ∃ inv, (M1 r c)⁻¹ = inv := ⟨_, rfl⟩
            rw [hinv] at HIV
            have HINV := Lib.hid hinv
            clear y1 y2 hinv
            go_loopw [92] (fun vj wr => ∃ j : Nat, vj = .int .i64 j ∧ j ≤ C ∧ Hid (RedW wr w.heap.size 59 5 3 G n C K g1 c1 (mulJ M1 r inv j) (.slice ap r cp) r p) ∧ Hid (wr.cell? ⟨B, 0, none⟩ = some (.int .i64 c)) ∧ Hid (Below w.heap.size w wr)) (fun vj _ => C - (intOf vj).toNat)
            case atStart => exact ⟨0, rfl, by omega, by rw [mulJ_zero]; exact Lib.hid (HW4.out.below (below_dr _ _ _)), Lib.hid cB4, below_drewN HB4.out _⟩
            case round =>
              clear HW4 HB4 cB4
              obtain ⟨j, rfl, hj, hW5, hc5, hb5⟩ := hrel
              by_cases hjC : j < C
              · have e1 := hW5.out.mat.hdr hrn
                have e2 := hW5.out.mat.cell hrn hjC
                have e3 := (hW5.out.mat.row r hrn).frozen j
                rw [mulJ_at] at e2
                unfold gv at e2
                obtain ⟨u, hu⟩ : ∃ u, (M1 r j).val = u := ⟨_, rfl⟩
                have hu256 : u < 256 := by rw [← hu]; exact GF.lt _
                rw [hu] at e2
                obtain ⟨v, hv⟩ : ∃ v, gmul u iv = v := ⟨_, rfl⟩
                have CU := Lib.hid (fun W => field_Mul u iv W hu256 hiv')
                rw [hv] at CU
                have hval : Hid ((M1 r j * inv).val = v) := by show _ = _; rw [GF.mul_val, hu, ← HIV.out, hv]
                have hW6 : Hid (RedW (wr.setCell ⟨g1 r, j, none⟩ (.int .u8 (v : Int))) w.heap.size 59 5 3 G n C K g1 c1 (mulJ M1 r inv (j + 1)) (.slice ap r cp) r p) := by
                  have h1 := hW5.out.set hrn j (M1 r j * inv)
                  rw [mulJ_step]
                  unfold gv at h1
                  rw [hval.out] at h1
                  exact h1
                have hb6 : Hid (Below w.heap.size w (wr.setCell ⟨g1 r, j, none⟩ (.int .u8 (v : Int)))) := hW5.out.setBelow hb5.out (Nat.le_refl _) hrn j _
                have hc6 : Hid ((wr.setCell ⟨g1 r, j, none⟩ (.int .u8 (v : Int))).cell? ⟨B, 0, none⟩ = some (.int .i64 c)) := by
                  have h1 := (hW5.out.mat.set hrn j (M1 r j * inv)).2
                  unfold gv at h1
                  rw [hval.out] at h1
                  exact h1.cell hc5.out (fun e => by have e2 : B = g1 r := Option.some.inj e; have := hg3.out r hrn; omega)
                have j0 : (0 : Int) ≤ (j : Int) := by omega
                have j1 : (j : Int) < (C : Int) := by omega
                have m1' := (hW5.out.mat.row r hrn).caps
                have m2' := m1'.1
                have m3' := m1'.2
                clear hu hv m1'
                go_wp2_with fail
                go_region_law (first | (go_simp; go_at_call 99; refine (CU.out _).mono ?_; rintro e w' ⟨rfl, rfl⟩))
                all_goals
                  go_wp2_with fail
                  go_roundw
                  case rel => exact ⟨j + 1, by go_num, by omega, (by first | exact hW6.out | exact hW6.out.below (below_drew1 (Below.refl _ _)) | exact hW6.out.below (below_dr _ _ _)), (by exact hc6.out), ⟨hb6.out.os, hb6.out.tape, hb6.out.output, hb6.out.size, hb6.out.block⟩⟩
                  case measure => simp [intOf]; omega
              · obtain rfl : C = j := by omega
                obtain ⟨M2, hM2⟩ : ∃ M2, mulR M1 r inv = M2 := ⟨_, rfl⟩
                have hW6 : Hid (RedW wr w.heap.size 59 5 3 G n C K g1 c1 (offs M2 r c 0) (.slice ap r cp) r p) := Lib.hid (hW5.out.congr fun i hi b hb => by rw [offs_zero, ← hM2]; exact mulJ_full M1 r inv C hb)
                have HM2 := Lib.hid hM2
                clear hM2 hW5
                go_wp2_with fail
                go_loopw [109] (fun vi wr => ∃ i : Nat, vi = .int .i64 i ∧ i ≤ n ∧ Hid (RedW wr w.heap.size 59 5 3 G n C K g1 c1 (offs M2 r c i) (.slice ap r cp) r p) ∧ Hid (wr.cell? ⟨B, 0, none⟩ = some (.int .i64 c)) ∧ Hid (Below w.heap.size w wr)) (fun vi _ => n - (intOf vi).toNat)
                case atStart => exact ⟨0, rfl, by omega, hW6, hc5, hb5⟩
                case round =>
                  clear hW6 hc5 hb5
                  obtain ⟨i, rfl, hi, hW5, hc5, hb5⟩ := hrel
                  by_cases hin : i < n
                  · have e1 := hW5.out.mat.hdr hin
                    have e2 := hW5.out.mat.cell hin hcC
                    unfold gv at e2
                    have e5 : wr.cell? ⟨B, 0, none⟩ = some (.int .i64 c) := hc5.out
                    obtain ⟨y, hy⟩ : ∃ y, (offs M2 r c i i c).val = y := ⟨_, rfl⟩
                    have hy256 : y < 256 := by rw [← hy]; exact GF.lt _
                    rw [hy] at e2
                    have i0 : (0 : Int) ≤ (i : Int) := by omega
                    have i1 : (i : Int) < (n : Int) := by omega
                    have m1' := (hW5.out.mat.row i hin).caps
                    have m2' := m1'.1
                    have m3' := m1'.2
                    clear m1'
                    by_cases hskip : i = r ∨ y = 0
                    · have hW6 : Hid (RedW wr w.heap.size 59 5 3 G n C K g1 c1 (offs M2 r c (i + 1)) (.slice ap r cp) r p) := by
                        show RedW _ _ _ _ _ _ _ _ _ _ _ _ _ _ _
                        rw [offs_skip (hskip.imp id fun h => GF.ext (by rw [hy, h]; rfl))]
                        exact hW5.out
                      clear hy
                      rcases hskip with hs | hs
                      · have d1 : ((i : Int) != (r : Int)) = false := by simp; omega
                        subst hs
                        go_wp2_with fail
                        go_roundw
                        case rel => exact ⟨i + 1, by go_num, by omega, hW6, hc5, hb5⟩
                        case measure => simp [intOf]; omega
                      · subst hs
                        by_cases hir : i = r
                        · have d1 : ((i : Int) != (r : Int)) = false := by simp; omega
                          subst hir
                          go_wp2_with fail
                          go_roundw
                          case rel => exact ⟨i + 1, by go_num, by omega, hW6, hc5, hb5⟩
                          case measure => simp [intOf]; omega
                        · have d1 : ((i : Int) != (r : Int)) = true := by simp; omega
                          go_wp2_with fail
                          go_roundw
                          case rel => exact ⟨i + 1, by go_num, by omega, hW6, hc5, hb5⟩
                          case measure => simp [intOf]; omega
                    · have hir : i ≠ r := fun e => hskip (.inl e)
                      have hri : r ≠ i := fun e => hir e.symm
                      have hy0 : y ≠ 0 := fun e => hskip (.inr e)
                      have d1 : ((i : Int) != (r : Int)) = true := by simp; omega
                      have d2' : ((y : Int) != 0) = true := by simp; omega
                      have e6 := hW5.out.mat.hdr hrn
                      obtain ⟨M3, hM3⟩ : ∃ M3, offs M2 r c i = M3 := ⟨_, rfl⟩
                      obtain ⟨yy, hyy⟩ : ∃ yy, M3 i c = yy := ⟨_, rfl⟩
                      have HYY : Hid (yy.val = y) := by show _ = _; rw [← hyy, ← hM3, hy]
                      have hfull : Hid (∀ a, a < n → ∀ b, b < C → offJ M3 r yy i C a b = offs M2 r c (i + 1) a b) := fun a _ b hb => by
                        rw [← hyy, ← hM3]
                        exact offJ_full hir hb
                      rw [hM3] at hW5
                      have m4' := (hW5.out.mat.row r hrn).caps
                      have m5' := m4'.1
                      have m6' := m4'.2
                      clear hy hM3 hyy hskip m4'
                      go_wp2_with fail
                      go_loopw [130] (fun vj wr => ∃ j : Nat, vj = .int .i64 j ∧ j ≤ C ∧ Hid (RedW wr w.heap.size 59 5 3 G n C K g1 c1 (offJ M3 r yy i j) (.slice ap r cp) r p) ∧ Hid (wr.cell? ⟨B, 0, none⟩ = some (.int .i64 c)) ∧ Hid (Below w.heap.size w wr)) (fun vj _ => C - (intOf vj).toNat)
                      case atStart => exact ⟨0, rfl, by omega, by rw [offJ_zero]; exact hW5, hc5, hb5⟩
                      case round =>
                        clear hW5 hc5 hb5 e1 e2 e5 e6
                        obtain ⟨j, rfl, hj, hW5, hc5, hb5⟩ := hrel
                        by_cases hjC : j < C
                        · have e2 := hW5.out.mat.cell hrn hjC
                          have e3 := hW5.out.mat.cell hin hjC
                          have e4 := (hW5.out.mat.row i hin).frozen j
                          rw [offJ_other _ _ _ _ hri] at e2
                          rw [offJ_at] at e3
                          unfold gv at e2 e3
                          obtain ⟨u, hu⟩ : ∃ u, (M3 r j).val = u := ⟨_, rfl⟩
                          obtain ⟨t, ht⟩ : ∃ t, (M3 i j).val = t := ⟨_, rfl⟩
                          have hu256 : u < 256 := by rw [← hu]; exact GF.lt _
                          have ht256 : t < 256 := by rw [← ht]; exact GF.lt _
                          rw [hu] at e2
                          rw [ht] at e3
                          obtain ⟨v, hv⟩ : ∃ v, gmul u y = v := ⟨_, rfl⟩
                          have hv256 : v < 256 := by rw [← hv]; exact gmul_lt hu256
                          obtain ⟨z, hz⟩ : ∃ z : Nat, t ^^^ v = z := ⟨_, rfl⟩
                          have ex : bits .xor .u8 (t : Int) (v : Int) = (z : Int) := by rw [u8_xor_nat t v ht256 hv256, hz]
                          have CU := Lib.hid (fun W => field_Mul u y W hu256 hy256)
                          rw [hv] at CU
                          have hval : Hid ((M3 i j + M3 r j * yy).val = z) := by show _ = _; rw [GF.add_val, GF.mul_val, hu, ht, HYY.out, hv, hz]
                          have hW6 : Hid (RedW (wr.setCell ⟨g1 i, j, none⟩ (.int .u8 (z : Int))) w.heap.size 59 5 3 G n C K g1 c1 (offJ M3 r yy i (j + 1)) (.slice ap r cp) r p) := by
                            have h1 := hW5.out.set hin j (M3 i j + M3 r j * yy)
                            rw [offJ_step]
                            unfold gv at h1
                            rw [hval.out] at h1
                            exact h1
                          have hb6 : Hid (Below w.heap.size w (wr.setCell ⟨g1 i, j, none⟩ (.int .u8 (z : Int)))) := hW5.out.setBelow hb5.out (Nat.le_refl _) hin j _
                          have hc6 : Hid ((wr.setCell ⟨g1 i, j, none⟩ (.int .u8 (z : Int))).cell? ⟨B, 0, none⟩ = some (.int .i64 c)) := by
                            have h1 := (hW5.out.mat.set hin j (M3 i j + M3 r j * yy)).2
                            unfold gv at h1
                            rw [hval.out] at h1
                            exact h1.cell hc5.out (fun e => by have e2 : B = g1 i := Option.some.inj e; have := hg3.out i hin; omega)
                          have j0 : (0 : Int) ≤ (j : Int) := by omega
                          have j1 : (j : Int) < (C : Int) := by omega
                          clear hu ht hv hz
                          go_wp2_with fail
                          go_region_law (first | (go_simp; go_at_call 99; refine (CU.out _).mono ?_; rintro e w' ⟨rfl, rfl⟩))
                          all_goals
                            go_wp2_with fail
                            go_roundw
                            case rel => exact ⟨j + 1, by go_num, by omega, (by first | exact hW6.out | exact hW6.out.below (below_drew1 (Below.refl _ _)) | exact hW6.out.below (below_dr _ _ _)), (by exact hc6.out), ⟨hb6.out.os, hb6.out.tape, hb6.out.output, hb6.out.size, hb6.out.block⟩⟩
                            case measure => simp [intOf]; omega
                        · obtain rfl : C = j := by omega
                          have hW6 := Lib.hid (hW5.out.congr hfull.out)
                          go_wp2_with fail
                          go_roundw
                          case rel => exact ⟨i + 1, by go_num, by omega, hW6, hc5, hb5⟩
                          case measure => simp [intOf]; omega
                  · obtain rfl : n = i := by omega
                    have hstep : Hid (offs M2 r c n = stepR n M r q c) := by
                      show _ = _
                      unfold stepR
                      rw [← HM2.out, ← HINV.out, HAT.out, ← HM1.out]
                    rw [hstep.out] at hW5
                    have hc7 : wr.cell? ⟨B, 0, none⟩ = some (.int .i64 c) := hc5.out
                    have hR2 := Lib.hid (hR.out.step hrn (by have := HQ.out; omega) hk1' HNE.out)
                    have hS2 := Lib.hid (hS.out.trans (stepR_SN M hrn hk1' HNE.out))
                    have hK2 : Hid (rkG n A (c + 1) = r + 1) := by
                      show _ = _
                      rw [rkG_not (fun h => hR.out.not_dep (by have := HQ.out; omega) hk1' HNE.out ((hS.out.dep hcC).1 h)), hK.out]
                    have hD3 : Hid (det * M1 r c * detG n (stepR n M r q c) = detG n A) := by
                      show _ = _
                      rw [gfld.mul_assoc, HAT.out, detG_step M hrn hk1' HNE.out]
                      exact hD.out
                    rw [HD2.out]
                    obtain ⟨det2, hdet2⟩ : ∃ det2, det * M1 r c = det2 := ⟨_, rfl⟩
                    rw [hdet2] at hD3 ⊢
                    clear hdet2 HD2 hstep
                    by_cases hlast : r + 1 = n
                    · have d5 : (((r : Int) + 1) == (n : Int)) = true := by simp; omega
                      have d6 : (((r + 1 : Nat) : Int) == (n : Int)) = true := by simp; omega
                      subst hlast
                      go_wp2_with (first
                        | (at_builtin; go_must (refine app_one2 rfl (.tmp 146) (.tmp 148) 22 rfl w.heap.size 3 _ 1 8 Try.underlying22 intRow' _ r (rowF r fun t => .int .i64 (p t : Int)) (by rfl) hW5.out.piv [.int .i64 (c : Int)] (by rfl) rfl (by intro u hu; simp at hu; subst hu; rfl) (by unfold maxLen; omega) (by omega) hb5.out.size ?_); intro v8 w8 hown8 hgr8 hb8 hvb8; have hW8 := Lib.hid (RedW.push hW5.out hgr8 hown8 hvb8); have hB8 := Lib.hid (hb5.out.trans hb8); obtain ⟨a8, c8, rfl, _, _, _, _⟩ := own_dataK hown8)
                        | fail)
                      go_ret3
                      have hRf := hR2.out.full (n := nc) (by omega)
                      have hrk : rkG (r + 1) A nc = r + 1 := by
                        have e1 : rkG (r + 1) (stepR (r + 1) M r q c) (c + 1) = r + 1 := by rw [← rkG_congr (fun m hm => hS2.out m (by omega))]; exact hK2.out
                        rw [rkG_congr (fun m hm => hS2.out m (by omega))]
                        exact hR2.out.full_rk e1 nc (by omega)
                      exact ⟨_, _, _, _, _, _, _, _, _, rfl, hW8.out, hRf, hS2.out, hrk, hD3.out, hB8.out⟩
                    · have d5 : (((r : Int) + 1) == (n : Int)) = false := by simp; omega
                      have d6 : (((r + 1 : Nat) : Int) == (n : Int)) = false := by simp; omega
                      go_wp2_with (first
                        | (at_builtin; go_must (refine app_one2 rfl (.tmp 146) (.tmp 148) 22 rfl w.heap.size 3 _ 1 8 Try.underlying22 intRow' _ r (rowF r fun t => .int .i64 (p t : Int)) (by rfl) hW5.out.piv [.int .i64 (c : Int)] (by rfl) rfl (by intro u hu; simp at hu; subst hu; rfl) (by unfold maxLen; omega) (by omega) hb5.out.size ?_); intro v8 w8 hown8 hgr8 hb8 hvb8; have hW8 := Lib.hid (RedW.push hW5.out hgr8 hown8 hvb8); have hB8 := Lib.hid (hb5.out.trans hb8); obtain ⟨a8, c8, rfl, _, _, _, _⟩ := own_dataK hown8)
                        | fail)
                      go_roundw
                      case rel => exact ⟨c + 1, r + 1, g1, c1, _, _, det2, by go_num, by omega, rfl, by omega, by omega, hW8, hR2, hS2, hK2, hD3, hB8⟩
                      case measure => simp [intOf]; omega
        · obtain rfl : nc = c := by omega
          go_wp2_with fail
          go_ret3
          exact ⟨_, _, _, _, _, _, _, _, _, rfl, hW.out, hR.out, hS.out, hK.out, hD.out, hb.out⟩
end Go.Proofs.Ytgdcmebhopjfaaa
