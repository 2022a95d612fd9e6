/- wholeref.TableRank. -/
import Derived.Test.YtgdcmebhopjfaaaMatW
import Derived.Test.YtgdcmebhopjfaaaTrM4
import Derived.Test.YtgdcmebhopjfaaaMatrix2
import Derived.Test.YtgdcmebhopjfaaaRefField
import Derived.Test.YtgdcmebhopjfaaaTrM28
namespace Go.Proofs.Ytgdcmebhopjfaaa
open Go.RowKit

def colT (D : Mt) (a k t : Nat) : Mt := fun j i => if k < j ∧ j < k + 1 + t then D j i + D j a * (D k a)⁻¹ * D k i else D j i
def colTJ (D : Mt) (j0 : Nat) (b : GF) (k s : Nat) : Mt := fun j i => if j = j0 ∧ i < s then D j i + b * D k i else D j i
theorem colT_zero (D : Mt) (a k : Nat) : colT D a k 0 = D := by funext j i; unfold colT; rw [if_neg (by omega)]
theorem colT_old (D : Mt) {a k t j : Nat} (i : Nat) (h : j ≤ k ∨ k + 1 + t ≤ j) : colT D a k t j i = D j i := by unfold colT; rw [if_neg (by omega)]
theorem colTJ_zero (D : Mt) (j0 : Nat) (b : GF) (k : Nat) : colTJ D j0 b k 0 = D := by funext j i; unfold colTJ; rw [if_neg (by omega)]
theorem colTJ_at (D : Mt) (j0 : Nat) (b : GF) (k s : Nat) : colTJ D j0 b k s j0 s = D j0 s := by unfold colTJ; rw [if_neg (by omega)]
theorem colTJ_k (D : Mt) {j0 : Nat} (b : GF) {k : Nat} (s i : Nat) (h : k ≠ j0) : colTJ D j0 b k s k i = D k i := by unfold colTJ; rw [if_neg fun e => h e.1]
theorem colTJ_step (D : Mt) (j0 : Nat) (b : GF) (k s : Nat) : colTJ D j0 b k (s + 1) = fun j i => if j = j0 ∧ i = s then D j0 s + b * D k s else colTJ D j0 b k s j i := by
  funext j i
  unfold colTJ
  by_cases h : j = j0 ∧ i = s
  · obtain ⟨rfl, rfl⟩ := h
    rw [if_pos ⟨rfl, by omega⟩, if_pos ⟨rfl, rfl⟩]
  · rw [if_neg h]
    by_cases h2 : j = j0 ∧ i < s
    · rw [if_pos h2, if_pos ⟨h2.1, by omega⟩]
    · rw [if_neg h2, if_neg (by omega)]
theorem colTJ_full (D : Mt) (a k t n : Nat) {i j : Nat} (hi : i < n) : colTJ (colT D a k t) (k + 1 + t) (D (k + 1 + t) a * (D k a)⁻¹) k n j i = colT D a k (t + 1) j i := by
  unfold colTJ
  by_cases h : j = k + 1 + t
  · subst h
    rw [if_pos ⟨rfl, hi⟩, colT_old D i (.inr (Nat.le_refl _)), colT_old D i (.inl (Nat.le_refl _))]
    unfold colT
    rw [if_pos (by omega)]
  · rw [if_neg fun e => h e.1]
    unfold colT
    by_cases h2 : k < j ∧ j < k + 1 + t
    · rw [if_pos h2, if_pos (by omega)]
    · rw [if_neg h2, if_neg (by omega)]
theorem colT_all (D : Mt) {a k C : Nat} (hk : k < C) {i j : Nat} (hj : j < C) : colT D a k (C - (k + 1)) j i = colOff (fun i j => D j i) a k i j := by
  unfold colT colOff
  by_cases h : k < j
  · rw [if_pos (by omega), if_pos h]
  · rw [if_neg (by omega), if_neg h]
theorem ColRed.congr {R n : Nat} {M C C' : Mt} {k r : Nat} {q a : Nat → Nat} (h : ColRed R n M C k r q a) (hk : k ≤ n) (he : ∀ i, i < R → ∀ j, j < n → C i j = C' i j) : ColRed R n M C' k r q a := by
  refine ⟨h.at_, fun j hj hn => ?_, fun j hj => ?_, h.qk, fun t ht => ?_, fun t ht j hj hn => ?_, fun s t hs ht => ?_⟩
  · obtain ⟨x, hx⟩ := h.from_ j hj hn
    exact ⟨x, fun i hi => by rw [← he i hi j hn]; exact hx i hi⟩
  · obtain ⟨b, hb⟩ := h.made j hj
    refine ⟨b, fun i hi => (hb i hi).trans (sumG_congr fun t ht => ?_)⟩
    rw [he i hi (q t) (by have := h.qk t ht; omega)]
  · rw [← he _ (h.at_ t ht) (q t) (by have := h.qk t ht; omega)]; exact h.ne t ht
  · rw [← he _ (h.at_ t ht) j hn]; exact h.off t ht j hj hn
  · rw [← he _ (h.at_ s (by omega)) (q t) (by have := h.qk t ht; omega)]; exact h.offq s t hs ht
/-- The first place where a column is not nought. -/
def nzB (x : Int) : Bool := x != 0
theorem nz_cases (n : Nat) (f : Nat → GF) : (∀ i, i < n → f i = 0) ∨ ∃ a, a < n ∧ f a ≠ 0 ∧ ∀ j, j < a → f j = 0 := by
  rcases idx_cases (R := n) (r := 0) (fun i _ => f i) 0 with h | ⟨k, h1, h2, h3⟩
  · exact .inl fun i hi => h i (Nat.zero_le _) hi
  · rw [Nat.zero_add] at h1 h2
    exact .inr ⟨k, h1, h2, fun j hj => by have := h3 j hj; rwa [Nat.zero_add] at this⟩
def colZ (n : Nat) (f : Nat → GF) : List Int := (List.range n).map fun i => ((f i).val : Int)
theorem colZ_len (n : Nat) (f : Nat → GF) : (colZ n f).length = n := by simp [colZ]
theorem colZ_get {n : Nat} (f : Nat → GF) {i : Nat} (h : i < n) : (colZ n f)[i]? = some ((f i).val : Int) := by unfold colZ; rw [List.getElem?_map, List.getElem?_range h]; rfl
theorem colZ_row (n : Nat) (f : Nat → GF) : (colZ n f).map (Value.int .u8) = rowF n (fun i => gv (f i)) := by unfold colZ rowF; rw [List.map_map]; rfl
theorem nz_none {n : Nat} {f : Nat → GF} (h : ∀ i, i < n → f i = 0) : idxI nzB (colZ n f) = -1 := by
  refine idxI_none fun x hx => ?_
  obtain ⟨i, hi, rfl⟩ := List.mem_map.1 hx
  rw [h i (List.mem_range.1 hi)]
  rfl
theorem nz_some {n a : Nat} {f : Nat → GF} (ha : a < n) (h : f a ≠ 0) (h2 : ∀ j, j < a → f j = 0) : idxI nzB (colZ n f) = a := by
  refine idxI_some (colZ_get f ha) ?_ fun j y hj hy => ?_
  · unfold nzB
    have : ((f a).val : Int) ≠ 0 := fun e => h (GF.ext (Int.ofNat.inj e))
    exact bne_iff_ne.2 this
  · rw [colZ_get f (by omega), h2 j hj] at hy
    cases hy
    rfl
theorem rank_nz (x : Int) (w : World) : Calls Try.prog 110 #[.int .u8 x] w fun e w' => e = .returned (.bool (nzB x)) ∧ w' = w := by
  unfold nzB
  go_enter Try.func110, Try.ntmps110
  go_wp2_with fail
  go_ret
  exact ⟨rfl, rfl⟩
theorem ref_Times_q (a b : Nat) (w : World) (ha : a < 256) (hb : b < 256) :
    Calls Try.prog 46 #[.int .u8 a, .int .u8 b] w fun e w' => e = .returned (.int .u8 (gmul a b : Nat)) ∧ ∃ m, w' = w.drewN m :=
  (ref_Times a b w ha hb).mono (by rintro e w' ⟨rfl, m, rfl⟩; exact ⟨rfl, m, rfl⟩)
set_option maxRecDepth 100000 in
set_option maxHeartbeats 16000000 in
theorem ref_TableRank (T : List Hd) (n C : Nat) (ao : Option Addr) (ca : Nat) (w : World) (hT : TabIn w ao n T) (oT : TabOk (zof T) n C) :
    Calls Try.prog 39 #[.slice ao n ca] w fun e w' => e = .returned (.int .i64 (rkG n (matM (zof T)) C)) ∧ Below w.heap.size w w' := by
  obtain ⟨A, hA⟩ : ∃ A, matM (zof T) = A := ⟨_, rfl⟩
  have FT := hT.fix oT
  rw [hA] at FT ⊢
  have r1 := oT.r1
  have r2 := oT.r12
  have r3 := oT.c1
  have r4 := oT.c24
  obtain ⟨b0, o0, rfl, FT⟩ := FT
  have HT := Lib.hid FT
  obtain ⟨b1, o1, c1, k1, k2, hF⟩ := FT 0 r1
  have x0 := (hF w (Below.refl _ _)).1
  rw [Nat.add_zero] at x0
  have z1 : (0 : Int) < (n : Int) := by omega
  clear hT oT hA FT hF
  go_enter Try.func39, Try.ntmps39
  go_wp2_with fail
  clear x0
  go_loopw [3, 19] (fun vo vk wr => ∃ (k : Nat) (gs cs : Nat → Nat), vk = .int .i64 k ∧ k ≤ C ∧ Hid (MatB wr w.heap.size 59 5 vo k n gs cs (fun j i => A i j)) ∧ Hid (Below w.heap.size w wr)) (fun _ vk _ => C - (intOf vk).toNat)
  case atStart => exact ⟨0, fun _ => 0, fun _ => 0, rfl, by omega, matB_nil _ _ _ _ _ _ _ _, Below.refl _ _⟩
  case round =>
    obtain ⟨k, gs, cs, rfl, hk, hM, hb⟩ := hrel
    obtain ⟨wo, rfl⟩ : ∃ wo, wo = wr := ⟨_, rfl⟩
    by_cases hkC : k < C
    · have i0 : (0 : Int) ≤ (k : Int) := by omega
      have i1 : (k : Int) < (C : Int) := by omega
      go_wp2_with fail
      go_loopw [5, 24] (fun vr vi wr => ∃ (i : Nat), vi = .int .i64 i ∧ i ≤ n ∧ Hid (wr.ownsRow wo.heap.size 5 1 vr i (rowF i fun t => gv (A t k))) ∧ Hid (Below wo.heap.size wo wr)) (fun _ vi _ => n - (intOf vi).toNat)
      case atStart => exact ⟨0, rfl, by omega, by exact World.ownsRow_nil _ _ _ _, Below.refl _ _⟩
      case round =>
        obtain ⟨i, rfl, hi, hO, hb3⟩ := hrel
        by_cases hin : i < n
        · have HBi : Hid (Below w.heap.size w wr) := hb.out.trans (hb3.out.mono hb.out.size)
          obtain ⟨f1, f2, f3, hd2, hd3, hG⟩ := HT.out i hin
          have d1 := (hG wr HBi.out).1
          have d2 := (hG wr HBi.out).2 k hkC
          obtain ⟨v, hv⟩ : ∃ v, (A i k).val = v := ⟨_, rfl⟩
          have HE : Hid (rowF (i + 1) (fun t => gv (A t k)) = rowF i (fun t => gv (A t k)) ++ [.int .u8 (v : Int)]) := by
            show _ = _
            rw [rowF_succ, ← hv]; rfl
          have j0 : (0 : Int) ≤ (i : Int) := by omega
          have j1 : (i : Int) < (n : Int) := by omega
          rw [hv] at d2
          clear hv hG
          go_wp2_with (first
            | (at_builtin; go_must (refine app_one2 rfl (.tmp 28) (.tmp 33) 59 rfl wo.heap.size 5 _ 1 1 Try.underlying59 u8Info _ i _ (by rfl) hO.out [.int .u8 (v : Int)] (by rfl) rfl (by intro u hu; simp at hu; subst hu; rfl) (by unfold maxLen; omega) (by omega) hb3.out.size ?_); intro v6 w6 hown6 hgr6 hb6 hvb; rw [← HE.out] at hown6; have hO6 := Lib.hid hown6; have hb7 := Lib.hid (hb3.out.trans hb6))
            | fail)
          clear hown6 hgr6 hb6 hvb
          go_roundw
          case rel => exact ⟨i + 1, by go_num, by omega, hO6, hb7⟩
          case measure => simp [intOf]; omega
        · obtain rfl : n = i := by omega
          obtain ⟨g, cp, rfl⟩ := own_form hO.out (fun e => by have := congrArg List.length e; rw [rowF_length, List.length_nil] at this; omega)
          have hown : Own wr wo.heap.size 5 g n cp (fun t => gv (A t k)) := hO.out
          have hM1 := Lib.hid (hM.out.below hb3.out)
          have hb2 := Lib.hid (hb.out.trans (hb3.out.mono hb.out.size))
          have hgn : ∀ j, j < k → gs j ≠ g := (fun j hj e => by have := (hM.out.row j hj).lt.2; have := hown.lt.1; omega)
          have hgv := hown.lt.1
          go_wp2_with (first
            | (at_builtin; go_must (refine app_one2 rfl (.tmp 36) (.tmp 38) 51 rfl w.heap.size 59 _ 1 24 Try.underlying51 rowsInfo _ k (rowF k (hdv n gs cs)) (by rfl) hM1.out.top [.slice (some ⟨g, 0, none⟩) n cp] (by rfl) rfl (by intro u hu; simp at hu; subst hu; rfl) (by unfold maxLen; omega) (by omega) hb2.out.size ?_); intro v8 w8 hown8 hgr8 hb8 hvb8; have X := MatB.push (f := fun t => A t k) hM1.out (own_mono hown hb.out.size) (fun e => by have := (World.ownsRow.lt hM.out.top g e).2; omega) hgn hgr8 hown8 hvb8; have hM8 := Lib.hid X; have hB8 := Lib.hid (hb2.out.trans hb8); clear X)
            | fail)
          have hM9 := Lib.hid (hM8.out.congr (M' := fun j i => A i j) (fun _ _ => rfl) (fun _ _ => rfl) (fun a ha j hj => by by_cases h : a = k; (rw [if_pos h, h]); (rw [if_neg h])))
          clear hown8 hgr8 hb8 hvb8 hown hgn hgv
          go_roundw
          case rel => exact ⟨k + 1, _, _, by go_num, by omega, hM9, hB8⟩
          case measure => simp [intOf]; omega
    · obtain rfl : C = k := by omega
      obtain ⟨G, K, rfl, hMat⟩ := hM.out.mat r3
      have HM : Hid (Mat wo w.heap.size 59 5 G C n K gs cs (fun j i => A i j)) := hMat
      have HGK := hMat.top.caps
      have hk1 := HGK.1
      have hk2 := HGK.2
      clear hM hMat HGK HT
      go_wp2_with fail
      go_loopw [3, 8] (fun vc vr wr => ∃ (k r av : Nat) (q a : Nat → Nat) (D : Mt), vc = .slice (some ⟨G, av, none⟩) (C - k) (K - k) ∧ k ≤ C ∧ (k < C → av = k) ∧ vr = .int .i64 r ∧ r ≤ k ∧
        Hid (Mat wr w.heap.size 59 5 G C n K gs cs D) ∧ Hid (ColRed n C A (fun i j => D j i) k r q a) ∧ Hid (rkG n A k = r) ∧ Hid (Below w.heap.size w wr)) (fun vc _ _ => match vc with | .slice _ l _ => l | _ => 0)
      case atStart => exact ⟨0, 0, 0, fun _ => 0, fun _ => 0, _, rfl, by omega, fun _ => rfl, rfl, by omega, HM, ColRed.start _ _ _ _ _, rfl, hb⟩
      case round =>
        clear HM hb
        obtain ⟨k, r, av, q, a, D, rfl, hk, hav, rfl, hrk, hM, hR, hK, hb⟩ := hrel
        by_cases hkC : k < C
        · obtain rfl : k = av := (hav hkC).symm
          obtain ⟨w0, rfl⟩ : ∃ w0, w0 = wr := ⟨_, rfl⟩
          have h0 := hM.out.hdr hkC
          have hrow := hM.out.row k hkC
          have CI := Lib.hid (fun X (hX : Below w0.heap.size w0 X) => indexFunc_u8 110 (fun x W => by go_simp) nzB (colZ n (D k)) (some ⟨gs k, 0, none⟩) (cs k) X (by rw [colZ_len]; omega) (Lib.hid (by rw [colZ_row]; exact hrow.reads.below hX)) (Lib.hid fun x _ m => (rank_nz x (X.drewN m)).mono (by rintro e w' ⟨rfl, rfl⟩; exact ⟨rfl, 0, rfl⟩)))
          rw [colZ_len] at CI
          have hcp := hrow.caps
          have hcp1 := hcp.1
          have hcp2 := hcp.2
          obtain ⟨LC, hLC⟩ : ∃ LC, C - k = LC := ⟨_, rfl⟩
          obtain ⟨LK, hLK⟩ : ∃ LK, K - k = LK := ⟨_, rfl⟩
          have hlast : ∃ av', (if LK = 1 then (some ⟨G, k, none⟩ : Option Addr) else some ⟨G, k + 1, none⟩) = some ⟨G, av', none⟩ ∧ (k + 1 < C → av' = k + 1) := by
            by_cases h : LK = 1
            · exact ⟨k, by rw [if_pos h], fun h2 => by omega⟩
            · exact ⟨k + 1, by rw [if_neg h], fun _ => rfl⟩
          obtain ⟨av, hav2, hav3⟩ := hlast
          rw [hLC, hLK]
          have l0 : (0 : Int) < (LC : Int) := by omega
          have l1 : (1 : Int) ≤ (LC : Int) := by omega
          have l2 : 1 ≤ LC := by omega
          have l3 : 1 ≤ LK := by omega
          have l4 : LC ≤ LK := by omega
          have l5 : (LC : Int) ≤ (LK : Int) := by omega
          have l6 : (1 : Int) ≤ (LK : Int) := by omega
          have HL1 : Hid (C - (k + 1) = LC - 1) := by show _ = _; omega
          have HL2 : Hid (K - (k + 1) = LK - 1) := by show _ = _; omega
          have hLCC : LC + k = C := by omega
          have hLKK : LK + k = K := by omega
          clear hLC hLK hrow hcp hav
          rcases nz_cases n (D k) with hz | ⟨α, ha1, ha2, ha3⟩
          · rw [nz_none hz] at CI
            have hR2 := Lib.hid (hR.out.skip hkC hz)
            have hK2 : Hid (rkG n A (k + 1) = r) := by
              show _ = _
              rw [rkG_dep (hR.out.dep hkC hz)]
              exact hK.out
            clear hz
            go_wp2_with (first
              | (go_at_call 109; (with_reducible refine (CI.out _ (Below.refl _ _)).mono ?_); rintro e w2 ⟨rfl, m2, rfl⟩)
              | fail)
            go_roundw
            case rel => exact ⟨k + 1, r, av, q, a, D, by rw [HL1.out, HL2.out], by omega, hav3, rfl, by omega, hM.out.below (below_dr _ _ _), hR2, hK2, below_drewN hb.out _⟩
            case measure => simp; omega
          · rw [nz_some ha1 ha2 ha3] at CI
            have hR2 := Lib.hid (hR.out.step hkC ha1 ha2)
            have hK2 : Hid (rkG n A (k + 1) = r + 1) := by
              show _ = _
              rw [rkG_not (hR.out.not_dep hkC ha1 ha2)]
              rw [hK.out]
            have hα : ¬ (α : Int) < 0 := by omega
            have α0 : (0 : Int) ≤ (α : Int) := by omega
            have α1 : (α : Int) < (n : Int) := by omega
            obtain ⟨x, hxv⟩ : ∃ x, (D k α).val = x := ⟨_, rfl⟩
            have x256 : x < 256 := by rw [← hxv]; exact GF.lt _
            obtain ⟨iv, hiv⟩ : ∃ iv, ginv x = iv := ⟨_, rfl⟩
            have iv256 : iv < 256 := by rw [← hiv]; exact ginv_lt x256
            have CU := Lib.hid (fun W => ref_Undo x W x256)
            rw [hiv] at CU
            have HX := Lib.hid hxv
            have HIV : Hid (((D k α)⁻¹).val = iv) := by show _ = _; rw [GF.inv_val, hxv, hiv]
            clear ha2 ha3 hxv hiv
            go_wp2_with (first
              | (go_at_call 109; (with_reducible refine (CI.out _ (Below.refl _ _)).mono ?_); rintro e w2 ⟨rfl, m2, rfl⟩)
              | fail)
            have hM0 : Hid (Mat (w0.drewN m2) w.heap.size 59 5 G C n K gs cs (colT D α k 0)) := by
              rw [colT_zero]; exact hM.out.below (below_dr _ _ _)
            have hb0 : Hid (Below w.heap.size w (w0.drewN m2)) := below_drewN hb.out _
            clear h0
            go_loopw [57] (fun vt wr => ∃ t : Nat, vt = .int .i64 t ∧ t ≤ LC - 1 ∧ Hid (Mat wr w.heap.size 59 5 G C n K gs cs (colT D α k t)) ∧ Hid (Below w.heap.size w wr)) (fun vt _ => LC - 1 - (intOf vt).toNat)
            case atStart => exact ⟨0, rfl, by omega, hM0, hb0⟩
            case round =>
              clear hM0 hb0
              obtain ⟨t, rfl, ht, hM3, hb3⟩ := hrel
              by_cases htL : t < LC - 1
              · obtain rfl : k + 1 = av := (hav3 (by omega)).symm
                obtain ⟨J, hJ⟩ : ∃ J, k + 1 + t = J := ⟨_, rfl⟩
                have hJC : J < C := by omega
                have hkJ : k ≠ J := by omega
                have h1 := hM3.out.hdr hJC
                rw [← hJ] at h1
                have e1 := hM3.out.cell hJC ha1
                have e2 := hM3.out.cell hkC ha1
                rw [colT_old D α (.inr (by omega))] at e1
                rw [colT_old D α (.inl (Nat.le_refl _))] at e2
                unfold gv at e1 e2
                rw [HX.out] at e2
                rw [← hJ] at e1
                obtain ⟨y, hy⟩ : ∃ y, (D (k + 1 + t) α).val = y := ⟨_, rfl⟩
                have y256 : y < 256 := by rw [← hy]; exact GF.lt _
                rw [hy] at e1
                obtain ⟨z, hz⟩ : ∃ z, gmul y iv = z := ⟨_, rfl⟩
                have z256 : z < 256 := by rw [← hz]; exact gmul_lt y256
                have CT := Lib.hid (fun W => ref_Times_q y iv W y256 iv256)
                rw [hz] at CT
                obtain ⟨B, hB⟩ : ∃ B, D J α * (D k α)⁻¹ = B := ⟨_, rfl⟩
                have HBV : Hid (B.val = z) := by show _ = _; rw [← hB, GF.mul_val, ← hJ, hy, HIV.out, hz]
                have hfull : Hid (∀ j, j < C → ∀ i, i < n → colTJ (colT D α k t) J B k n j i = colT D α k (t + 1) j i) := fun j _ i hi => by
                  rw [← hB, ← hJ]; exact colTJ_full D α k t n hi
                have hmr := (hM3.out.row J hJC).caps
                have hm1 := hmr.1
                have hm2 := hmr.2
                rw [← hJ] at hm1 hm2
                have t0 : (0 : Int) ≤ (t : Int) := by omega
                have t1 : (t : Int) < ((LC - 1 : Nat) : Int) := by omega
                have HJ := Lib.hid hJ
                clear hy hz hB hmr hJ
                go_wp2_with fail
                go_quiet ((first
                  | (go_at_call 54; (first | (with_reducible exact quiet_on (fun W' => CU.out W')) | (with_reducible exact quiet_at (fun W' => CU.out W')) | exact CU.out _))
                  | (go_at_call 46; (first | (with_reducible exact quiet_on (fun W' => CT.out W')) | (with_reducible exact quiet_at (fun W' => CT.out W')) | exact CT.out _))
                  | fail))
                go_wp2_with fail
                rw [HJ.out]
                go_loopw [73] (fun vs wr => ∃ s : Nat, vs = .int .i64 s ∧ s ≤ n ∧ Hid (Mat wr w.heap.size 59 5 G C n K gs cs (colTJ (colT D α k t) J B k s)) ∧ Hid (Below w.heap.size w wr)) (fun vs _ => n - (intOf vs).toNat)
                case atStart => exact ⟨0, rfl, by omega, by rw [colTJ_zero]; exact Lib.hid (hM3.out.below (below_dr _ _ _)), below_drewN hb3.out _⟩
                case round =>
                  clear hM3 hb3 h1 e1 e2
                  obtain ⟨s, rfl, hs, hM3, hb3⟩ := hrel
                  by_cases hsn : s < n
                  · have e1 := hM3.out.cell hJC hsn
                    have e2 := hM3.out.cell hkC hsn
                    have e3 := (hM3.out.row J hJC).frozen s
                    rw [colTJ_at] at e1
                    rw [colTJ_k _ _ _ _ hkJ] at e2
                    unfold gv at e1 e2
                    obtain ⟨u, hu⟩ : ∃ u, (colT D α k t J s).val = u := ⟨_, rfl⟩
                    obtain ⟨v, hv⟩ : ∃ v, (colT D α k t k s).val = v := ⟨_, rfl⟩
                    have u256 : u < 256 := by rw [← hu]; exact GF.lt _
                    have v256 : v < 256 := by rw [← hv]; exact GF.lt _
                    rw [hu] at e1
                    rw [hv] at e2
                    obtain ⟨p, hp⟩ : ∃ p, gmul z v = p := ⟨_, rfl⟩
                    have p256 : p < 256 := by rw [← hp]; exact gmul_lt z256
                    obtain ⟨o, ho⟩ : ∃ o : Nat, u ^^^ p = o := ⟨_, rfl⟩
                    have ex : bits .xor .u8 (u : Int) (p : Int) = (o : Int) := by rw [u8_xor_nat u p u256 p256, ho]
                    have CT2 := Lib.hid (fun W => ref_Times z v W z256 v256)
                    rw [hp] at CT2
                    have hval : Hid ((colT D α k t J s + B * colT D α k t k s).val = o) := by show _ = _; rw [GF.add_val, GF.mul_val, hu, HBV.out, hv, hp, ho]
                    have st := hM3.out.set hJC s (colT D α k t J s + B * colT D α k t k s)
                    have hM4 : Hid (Mat (wr.setCell ⟨gs J, s, none⟩ (.int .u8 (o : Int))) w.heap.size 59 5 G C n K gs cs (colTJ (colT D α k t) J B k (s + 1))) := by
                      have h1 := st.1
                      rw [colTJ_step]
                      unfold gv at h1
                      rw [hval.out] at h1
                      exact h1
                    have hb4 : Hid (Below w.heap.size w (wr.setCell ⟨gs J, s, none⟩ (.int .u8 (o : Int)))) := hM3.out.setBelow hb3.out (Nat.le_refl _) hJC s _
                    have s0 : (0 : Int) ≤ (s : Int) := by omega
                    have s1 : (s : Int) < (n : Int) := by omega
                    clear st hu hv hp ho
                    go_wp2_with fail
                    go_region_law (first | (go_simp; go_at_call 46; refine (CT2.out _).mono ?_; rintro e w' ⟨rfl, m3, rfl⟩))
                    all_goals
                      go_wp2_with fail
                      go_roundw
                      case rel => exact ⟨s + 1, by go_num, by omega, (by first | exact hM4.out | exact hM4.out.below (below_drew1 (Below.refl _ _)) | exact hM4.out.below (below_dr _ _ _) | exact ⟨hM4.out.top, hM4.out.row, hM4.out.ne, hM4.out.inj⟩), ⟨hb4.out.os, hb4.out.tape, hb4.out.output, hb4.out.size, hb4.out.block⟩⟩
                      case measure => simp [intOf]; omega
                  · obtain rfl : n = s := by omega
                    have hM4 := Lib.hid (hM3.out.congr hfull.out)
                    go_wp2_with fail
                    go_roundw
                    case rel => exact ⟨t + 1, by go_num, by omega, hM4, hb3⟩
                    case measure => simp [intOf]; omega
              · obtain rfl : t = LC - 1 := by omega
                have hR3 : Hid (ColRed n C A (fun i j => colT D α k (LC - 1) j i) (k + 1) (r + 1) (fun t => if t = r then k else q t) (fun t => if t = r then α else a t)) := by
                  refine hR2.out.congr (by omega) fun i _ j hj => ?_
                  rw [← HL1.out]
                  exact (colT_all D hkC hj).symm
                go_wp2_with fail
                go_roundw
                case rel => exact ⟨k + 1, r + 1, av, _, _, _, by rw [HL1.out, HL2.out], by omega, hav3, by go_num, by omega, hM3, hR3, hK2, hb3⟩
                case measure => simp; omega
        · obtain rfl : C = k := by omega
          have e0 : C - C = 0 := Nat.sub_self _
          rw [e0]
          go_wp2_with fail
          go_ret
          exact ⟨by rw [hK.out]; rfl, hb.out⟩
end Go.Proofs.Ytgdcmebhopjfaaa
