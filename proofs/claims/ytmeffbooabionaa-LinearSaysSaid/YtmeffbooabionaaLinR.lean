/- LinearSays: the law's walk. -/
import Derived.Test.YtmeffbooabionaaLinQ
import Derived.Test.YtmeffbooabionaaLinE
import Derived.Test.YtmeffbooabionaaEqualInt
namespace Go.Proofs.Ytmeffbooabionaa
open Go.RowKit

theorem onesF_pos {x j : Nat} (hj : x.testBit j = true) : ∀ k, j < k → 0 < onesF x k := by
  intro k
  induction k with
  | zero => intro h; omega
  | succ k ih =>
    intro h
    have e : onesF x (k + 1) = onesF x k + x / 2 ^ k % 2 := rfl
    rw [e]
    by_cases hk : j = k
    · subst hk
      rw [Nat.testBit_eq_decide_div_mod_eq] at hj
      have := of_decide_eq_true hj
      omega
    · have := ih (by omega); omega
theorem ones_pos {x : Nat} (h0 : 0 < x) (h : x < 65536) : 0 < ones16 x := onesF_pos (hi_set h0 h) 16 (hi_lt h0 h)
theorem far_some {N : Nat} {W : List Nat} {k1 : Nat} (h1 : k1 ≤ N) (hp : 0 < wtN W k1) : ∀ q k, k + q = N + 2 → k ≤ k1 → ∃ k0, k ≤ k0 ∧ k0 ≤ N ∧ 0 < wtN W k0 ∧ (∀ i, k ≤ i → i < k0 → wtN W i = 0) ∧ farN N W k q = (k0, 0) := by
  intro q
  induction q with
  | zero => intro k h hk; omega
  | succ q ih =>
    intro k h hk
    by_cases hz : 0 < wtN W k
    · exact ⟨k, Nat.le_refl _, by omega, hz, fun i h1 h2 => by omega, far_hit (by omega) hz⟩
    · have hne : k ≠ k1 := fun e => hz (by rw [e]; exact hp)
      obtain ⟨k0, a1, a2, a3, a4, a5⟩ := ih (k + 1) (by omega) (by omega)
      exact ⟨k0, by omega, a2, a3, fun i h1 h2 => by
        by_cases hi : i = k
        · subst hi; omega
        · exact a4 i (by omega) h2, by rw [far_next (by omega) hz]; exact a5⟩
theorem far_none {N : Nat} {W : List Nat} (hz : ∀ k, 1 ≤ k → wtN W k = 0) : ∀ q k, 1 ≤ k → farN N W k q = (0, 4) := by
  intro q
  induction q with
  | zero => intro k _; rfl
  | succ q ih =>
    intro k hk
    by_cases h : k ≤ N
    · rw [far_next h (by rw [hz k hk]; omega)]; exact ih (k + 1) (by omega)
    · exact far_end h
theorem words_zero (l : List Nat) : 0 ∈ wordsL l := (mem_wordsL l 0).2 (allX_zero l)
theorem words_one {l : List Nat} (h : (wordsL l).length = 1) : ∀ k, 1 ≤ k → wtN (wordsL l) k = 0 := by
  have h0 := words_zero l
  obtain ⟨x, hx⟩ := List.length_eq_one_iff.1 h
  rw [hx] at h0 ⊢
  simp at h0
  subst h0
  intro k hk
  unfold wtN
  have : (ones16 0 == k) = false := by
    have e : ones16 0 = 0 := by decide
    rw [e]; simp; omega
  simp [this]
theorem words_more {l : List Nat} {N : Nat} (hN : N ≤ 12) (hl : ∀ g ∈ l, g < 2 ^ N) (h : (wordsL l).length ≠ 1) : ∃ k, 1 ≤ k ∧ k ≤ N ∧ 0 < wtN (wordsL l) k := by
  have h0 := words_zero l
  have hn := strict_nodup (wordsL_strict l)
  have hex : ∃ x ∈ wordsL l, x ≠ 0 := by
    match hW : wordsL l with
    | [] => rw [hW] at h0; cases h0
    | [a] => rw [hW] at h; exact absurd rfl h
    | a :: b :: r =>
      rw [hW] at hn
      have hab : a ≠ b := by
        have := (List.nodup_cons.1 hn).1
        intro e; exact this (by rw [e]; simp)
      by_cases ha : a = 0
      · exact ⟨b, by simp, fun e => hab (by rw [ha, e])⟩
      · exact ⟨a, by simp, ha⟩
  obtain ⟨x, hx, hx0⟩ := hex
  have hxN := allX_lt hl x ((mem_wordsL l x).1 hx)
  have hx16 : x < 65536 := by have := two_le16 hN; omega
  refine ⟨ones16 x, ones_pos (by omega) hx16, ones_le (by omega) hxN, ?_⟩
  unfold wtN
  exact List.countP_pos_iff.2 ⟨x, hx, by simp⟩
theorem wtC_cells (W : List Nat) (M : Nat) : rowF M (wtC W) = (((List.range M).map (wtN W)).map fun x : Nat => (x : Int)).map (Value.int .i64) := by
  unfold rowF wtC
  rw [List.map_map, List.map_map]
  rfl
set_option maxRecDepth 100000 in
set_option maxHeartbeats 16000000 in
theorem linearSays_walk (nz : Int) (ao : Option Addr) (m cap : Nat) (zs : List Int) (w : World) (hwf : (Lit.int .i64 nz).wf = true) (h : IntsIn .u16 w ao m zs ∧ CapOk ao m cap) :
    Calls Try.prog 4 #[.int .i64 nz, .slice ao m cap] w fun e w' => e = .returned (.bool true) ∧ Below w.heap.size w w' := by
  obtain ⟨l, hl, h63, hlt, hR0⟩ := natsIn h.1
  have hR : Hid (Reads w ao (cellsU l)) := hR0
  clear h zs hR0 hwf
  have HW := Lib.hid (fun W hr => ref_WordErr nz l ao m cap W hl h63 hlt hr)
  have HK := Lib.hid (fun W hr => lin_Check nz l ao m cap W hl h63 hlt hr)
  have CW := Lib.hid (fun W hr => lin_Words nz l ao m cap W hl h63 hlt hr)
  have CB := Lib.hid (fun W hr => lin_Base nz l ao m cap W hl h63 hlt hr)
  by_cases hE : wordE nz l = 0
  · obtain ⟨n1, n12, h6, hltN⟩ := wordE_zero hE
    obtain ⟨N, rfl⟩ : ∃ N : Nat, nz = (N : Int) := ⟨nz.toNat, by omega⟩
    rw [Int.toNat_natCast] at hltN
    rw [hE, if_pos rfl] at CW CB
    rw [hE] at HW HK
    have hN : N ≤ 12 := by omega
    have hN1 : 1 ≤ N := by omega
    have CG := Lib.hid (fun W hr => lin_Weights N l ao m cap W hN1 hN hl (by omega) hE hr)
    have CF := Lib.hid (fun W hr => lin_Far N l ao m cap W hN1 hN hl (by omega) hE hr)
    have CA := Lib.hid (fun W hr => ref_AllWords m l ao cap W hl (by omega) hlt hr)
    have hone := fun h1 => far_none (N := N) (words_one (l := l) h1) (N + 1) 1 (Nat.le_refl _)
    have hmore := fun h1 => words_more (l := l) hN hltN h1
    obtain ⟨X, hX⟩ : ∃ X, wordsL l = X := ⟨_, rfl⟩
    have hXl : ∀ x ∈ X, x < 2 ^ N := by rw [← hX]; exact fun x hx => allX_lt hltN x ((mem_wordsL l x).1 hx)
    have hX16 : ∀ x ∈ X, x < 65536 := by rw [← hX]; exact wordsL_lt hN hltN
    have hX64 : X.length ≤ 64 := by rw [← hX]; exact wordsL_64 h6
    have hbl := base_law hlt
    rw [hX] at hbl CW CG CF CA hone hmore
    obtain ⟨D, hD⟩ : ∃ D, X.length = D := ⟨_, rfl⟩
    have HD := Lib.hid hD
    rw [hD] at hX64 hone hmore
    have C3 := Lib.hid (fun a c W hr => ref_BaseOf D X a c W hD (by omega) hX16 hr)
    rw [hbl] at C3
    obtain ⟨Z, hZ⟩ : ∃ Z, baseL l = Z := ⟨_, rfl⟩
    have hZ6 : Z.length ≤ 6 := by rw [← hZ]; exact Nat.le_trans (baseL_len l) h6
    rw [hZ] at C3 CB
    obtain ⟨zl, hzl⟩ : ∃ zl, Z.length = zl := ⟨_, rfl⟩
    rw [hzl] at hZ6
    have CS := Lib.hid (fun a1 a2 c1 c2 W h1 h2 => same_u16 Z zl a1 a2 c1 c2 W hzl (by omega) h1 h2)
    have hXc : (X.map fun x : Nat => (x : Int)).length = D := by rw [List.length_map, hD]
    have CE := Lib.hid (fun a1 a2 c1 c2 W h1 h2 => equal_u16 (X.map fun x : Nat => (x : Int)) (X.map fun x : Nat => (x : Int)) a1 a2 c1 c2 W (by rw [hXc]; omega) (by rw [hXc]; omega) h1 h2)
    rw [hXc, decide_eq_true rfl, ← cellsU_cast] at CE
    obtain ⟨M, hM⟩ : ∃ M, N + 1 = M := ⟨_, rfl⟩
    have eM : (N : Int) + 1 = (M : Int) := by omega
    have hMl : (((List.range M).map (wtN X)).map fun x : Nat => (x : Int)).length = M := by simp
    have hM13 : M ≤ 13 := by omega
    have CI := Lib.hid (fun a1 a2 c1 c2 W h1 h2 => equal_int (((List.range M).map (wtN X)).map fun x : Nat => (x : Int)) (((List.range M).map (wtN X)).map fun x : Nat => (x : Int)) a1 a2 c1 c2 W (by rw [hMl]; omega) (by rw [hMl]; omega) h1 h2)
    rw [hMl, decide_eq_true rfl, ← wtC_cells] at CI
    unfold WordPost2 at CW CB
    unfold WtPost at CG
    unfold AllPost at CA C3
    rw [hD] at CW CA
    rw [hzl] at CB C3
    rw [hM] at CG CF hone
    obtain ⟨F1, F2, hF⟩ : ∃ F1 F2, farN N X 1 M = (F1, F2) := ⟨_, _, rfl⟩
    rw [hF] at CF hone
    simp only [] at CF
    have hfar : (D = 1 ∧ F1 = 0 ∧ F2 = 4) ∨ (D ≠ 1 ∧ F2 = 0 ∧ 1 ≤ F1 ∧ F1 ≤ N ∧ 0 < wtN X F1 ∧ ∀ i, 1 ≤ i → i < F1 → wtN X i = 0) := by
      by_cases h1 : D = 1
      · left
        have := hone h1
        cases this
        exact ⟨h1, rfl, rfl⟩
      · right
        obtain ⟨k1, b1, b2, b3⟩ := hmore h1
        obtain ⟨k0, a1, a2, a3, a4, a5⟩ := far_some b2 b3 M 1 (by omega) b1
        rw [hF] at a5
        cases a5
        exact ⟨h1, rfl, a1, a2, a3, a4⟩
    have HFAR := Lib.hid hfar
    have HXL := Lib.hid hXl
    have HX16 := Lib.hid hX16
    have hF1 : F1 ≤ 12 := by rcases hfar with h | h <;> omega
    clear hone hmore hbl hX hXl hX16 hD hZ hzl hXc hMl hF hfar hE hltN hlt
    go_enter Try.func4, Try.ntmps4
    go_wp2_with (first
      | (go_at_call 13; (refine (CW.out _ hR).mono ?_); rintro e w1 ⟨a1, rfl, hn1, hp1, hR1, hb1⟩)
      | (go_at_call 14; (refine (CB.out _ (hR.out.below hb1)).mono ?_); rintro e w2 ⟨a2, rfl, hn2, hp2, hR2, hb2⟩; have hB2 : Below w.heap.size w w2 := hb1.trans (hb2.mono hb1.size); have hR1b := hR1.below hb2)
      | (go_at_call 15; (refine (CG.out _ (hR.out.below hB2)).mono ?_); rintro e w3 ⟨g3, rfl, hO3, hb3⟩; have hB3 : Below w.heap.size w w3 := hB2.trans (hb3.mono hB2.size); have hR1c := hR1b.below hb3; have hR2c := hR2.below hb3; have hR3 := hO3.reads)
      | (go_at_call 16; (refine (CF.out _ (hR.out.below hB3)).mono ?_); rintro e w4 ⟨rfl, hb4⟩; have hB4 : Below w.heap.size w w4 := hB3.trans (hb4.mono hB3.size); have hR1d := hR1c.below hb4; have hR2d := hR2c.below hb4; have hR3d := hR3.below hb4)
      | (go_at_call 8; (refine (HW.out _ (hR.out.below hB4)).mono ?_); rintro e w5 ⟨rfl, hb5⟩; have hB5 : Below w.heap.size w w5 := hB4.trans (hb5.mono hB4.size); have hR1e := hR1d.below hb5; have hR2e := hR2d.below hb5; have hR3e := hR3d.below hb5)
      | (go_at_call 17; (refine (HK.out _ (hR.out.below hB5)).mono ?_); rintro e w6 ⟨rfl, hb6⟩; have hB6 : Below w.heap.size w w6 := hB5.trans (hb6.mono hB5.size); have hR1f := hR1e.below hb6; have hR2f := hR2e.below hb6; have hR3f := hR3e.below hb6)
      | (go_at_call 9; (refine (CA.out _ (hR.out.below hB6)).mono ?_); rintro e w7 ⟨v7, rfl, hO7, hb7⟩; obtain ⟨a7, c7, rfl, hR7, hn7, _, _⟩ := own_dataK hO7; have hB7 : Below w.heap.size w w7 := hB6.trans (hb7.mono hB6.size); have hR1g := hR1f.below hb7; have hR2g := hR2f.below hb7; have hR3g := hR3f.below hb7)
      | (at_make; refine make_own rfl _ _ 32 rfl w7.heap.size 3 _ 8 Try.underlying32 intInfoL rfl _ _ _ _ M (by rfl) (by rfl) rfl rfl (by omega) (by unfold maxLen; omega) (Nat.le_refl _) ?_; intro w8 hown8 hg8; have hb8 := below_of_grown hg8 (Nat.le_refl w7.heap.size) (by intro k hk; cases hk); have hB8 : Below w.heap.size w w8 := hB7.trans (hb8.mono hB7.size); have hR1h := hR1g.below hb8; have hR2h := hR2g.below hb8; have hR3h := hR3g.below hb8; have hR7h := hR7.below hb8)
      | fail)
    obtain ⟨g, hg⟩ : ∃ g, w7.heap.size = g := ⟨_, rfl⟩
    rw [hg] at hown8 hb8 ⊢
    have hgl := hown8.lt
    have H1 := Lib.hid hR1g
    have H2 := Lib.hid hR2g
    have H3 := Lib.hid hR3g
    have H7 := Lib.hid hR7
    have HB7 := Lib.hid hB7
    have HG := Lib.hid hg
    have hO8 := Lib.hid (hown8.congr (f' := wtC (X.take 0)) (fun j _ => by unfold wtC wtN; simp))
    have hB0 := Lib.hid hb8
    clear hown8 hb8 hg8 hgl hR1 hR2 hR3 hR7 hR1b hR1c hR2c hR1d hR2d hR3d hR1e hR2e hR3e hR1f hR2f hR3f hR1g hR2g hR3g hR1h hR2h hR3h hR7h hb1 hb2 hb3 hb4 hb5 hb6 hb7 hB2 hB3 hB4 hB5 hB6 hB7 hB8 hO3 hO7 hp1 hp2 hg
    go_loopw [93] (fun vj wr => ∃ (j : Nat), vj = .int .i64 j ∧ j ≤ D ∧ Hid (Own wr g 3 g M M (wtC (X.take j))) ∧ Hid (Below g w7 wr)) (fun vj _ => D - (intOf vj).toNat)
    case atStart => exact ⟨0, rfl, Nat.zero_le _, hO8, hB0⟩
    case round =>
      clear hO8 hB0
      obtain ⟨j, rfl, hj, hO, hB⟩ := hrel
      have hBw : Hid (Below w7.heap.size w7 wr) := by rw [HG.out]; exact hB
      by_cases hjD : j < D
      · obtain ⟨x, hx⟩ : ∃ x, X[j]? = some x := ⟨X[j]'(by rw [HD.out]; exact hjD), List.getElem?_eq_getElem _⟩
        have hxN := HXL.out x (List.mem_of_getElem? hx)
        have hxl := HX16.out x (List.mem_of_getElem? hx)
        have hon := ones_le (by omega) hxN
        obtain ⟨b, o, hab, hc⟩ := (H7.out.below hBw.out) j (.int .u16 (x : Int)) (cellsU_get hx)
        have CO := Lib.hid (fun W => ref_Ones x W hxl)
        have wx : IntKind.i64.wrap (x : Int) = (x : Int) := IntWalk.i64_in _ (by omega)
        obtain ⟨t, ht⟩ : ∃ t, ones16 x = t := ⟨_, rfl⟩
        have HT := Lib.hid ht
        rw [ht] at CO hon
        obtain ⟨c, hcnt⟩ : ∃ c, wtN (X.take j) t = c := ⟨_, rfl⟩
        have hcl : c ≤ 64 := by rw [← hcnt]; refine Nat.le_trans (wtN_le _ _) ?_; rw [List.length_take]; omega
        have HC := Lib.hid hcnt
        have hjz : (j : Int) < (D : Int) := by omega
        have htM : t < M := by omega
        have htMz : (t : Int) < (M : Int) := by omega
        have htz : (0 : Int) ≤ (t : Int) := by omega
        obtain ⟨c', hc'⟩ : ∃ c', c + 1 = c' := ⟨_, rfl⟩
        have ec : (c : Int) + 1 = (c' : Int) := by omega
        have HC2 := Lib.hid hc'
        have HXT := Lib.hid (app_take hx)
        have c9 := (hO.out.cell htM).trans (congrArg (fun z : Nat => some (Value.int .i64 (z : Int))) hcnt)
        have f9 := hO.out.frozen t
        have st := hO.out.store t (.int .i64 (c' : Int))
        have hO5 : Hid (Own (wr.setCell ⟨g, t, none⟩ (.int .i64 (c' : Int))) g 3 g M M (wtC (X.take (j + 1)))) := by
          refine st.1.congr fun a _ => ?_
          show (if a = t then _ else wtC (X.take j) a) = wtC (X.take (j + 1)) a
          unfold wtC
          rw [HXT.out, wtN_snoc, HT.out]
          by_cases ha : a = t
          · rw [if_pos ha, if_pos ha, ha, HC.out, HC2.out]
          · rw [if_neg ha, if_neg ha]
        have hB5 : Hid (Below g w7 (wr.setCell ⟨g, t, none⟩ (.int .i64 (c' : Int)))) := hB.out.setCell (Nat.le_refl _) _
        subst hab
        clear hx hxN ht hcnt hc' st hO hB hBw
        go_wp2_with (first | (go_at_call 18; (refine (CO.out _).mono ?_); rintro e w9 ⟨rfl, rfl⟩) | fail)
        go_roundw
        case rel => exact ⟨j + 1, by go_num, by omega, hO5, hB5⟩
        case measure => simp [intOf]; omega
      · obtain rfl : D = j := by omega
        have hT : X.take D = X := List.take_of_length_le (by rw [HD.out]; exact Nat.le_refl _)
        rw [hT] at hO
        have H1' := Lib.hid (H1.out.below hBw.out)
        have H2' := Lib.hid (H2.out.below hBw.out)
        have H3' := Lib.hid (H3.out.below hBw.out)
        have H7' := Lib.hid (H7.out.below hBw.out)
        have HB9 : Hid (Below w.heap.size w wr) := HB7.out.trans (hBw.out.mono HB7.out.size)
        clear hT
        rcases HFAR.out with ⟨hD1, rfl, rfl⟩ | ⟨hD1, rfl, f1, f2, f3, f4⟩
        · subst hD1
          go_wp2_with (first
            | (go_at_call 19; (refine (CE.out a1 a7 _ _ _ H1'.out H7'.out).mono ?_); rintro e w10 ⟨rfl, q1, rfl⟩)
            | (go_at_call 10; (refine (C3.out a7 c7 _ (show Reads (wr.drewN q1) a7 (cellsU X) from H7'.out)).mono ?_); rintro e w11 ⟨v11, rfl, hO11, hb11⟩; obtain ⟨a11, c11, rfl, hR11, hn11, _, _⟩ := own_dataK hO11; have h2b := Lib.hid ((show Reads (wr.drewN q1) a2 (cellsU Z) from H2'.out).below hb11); have hO11b := Lib.hid ((hO.out.drewN q1).below hb11); have h3b := Lib.hid ((show Reads (wr.drewN q1) (some ⟨g3, 0, none⟩) (rowF M (wtC X)) from H3'.out).below hb11); have hB11 : Below w.heap.size w w11 := (below_drewN HB9.out q1).trans (hb11.mono (below_drewN HB9.out q1).size))
            | (go_at_call 11; (refine (CS.out a2 a11 _ _ _ h2b.out hR11).mono ?_); rintro e w12 ⟨rfl, q2, rfl⟩)
            | (go_at_call 20; (refine (CI.out (some ⟨g3, 0, none⟩) (some ⟨g, 0, none⟩) _ _ _ (show Reads (w11.drewN q2) _ _ from h3b.out) (show Reads (w11.drewN q2) _ _ from hO11b.out.reads)).mono ?_); rintro e w13 ⟨rfl, q3, rfl⟩)
            | fail)
          go_ret
          exact ⟨rfl, below_drewN hB11 _⟩
        · have hD1z : ((D : Int) == 1) = false := by simp; omega
          have hD1y : ¬ ((D : Int) = 1) := by omega
          have HF4 := Lib.hid f4
          have HF3 := Lib.hid f3
          clear f4 f3 hD1
          go_upto_region 21 with (first
            | (go_at_call 19; (refine (CE.out a1 a7 _ _ _ H1'.out H7'.out).mono ?_); rintro e w10 ⟨rfl, q1, rfl⟩)
            | (go_at_call 10; (refine (C3.out a7 c7 _ (show Reads (wr.drewN q1) a7 (cellsU X) from H7'.out)).mono ?_); rintro e w11 ⟨v11, rfl, hO11, hb11⟩; obtain ⟨a11, c11, rfl, hR11, hn11, _, _⟩ := own_dataK hO11; have h2b := Lib.hid ((show Reads (wr.drewN q1) a2 (cellsU Z) from H2'.out).below hb11); have hO11b := Lib.hid ((hO.out.drewN q1).below hb11); have h3b := Lib.hid ((show Reads (wr.drewN q1) (some ⟨g3, 0, none⟩) (rowF M (wtC X)) from H3'.out).below hb11); have hB11 : Below w.heap.size w w11 := (below_drewN HB9.out q1).trans (hb11.mono (below_drewN HB9.out q1).size))
            | (go_at_call 11; (refine (CS.out a2 a11 _ _ _ h2b.out hR11).mono ?_); rintro e w12 ⟨rfl, q2, rfl⟩)
            | (go_at_call 20; (refine (CI.out (some ⟨g3, 0, none⟩) (some ⟨g, 0, none⟩) _ _ _ (show Reads (w11.drewN q2) _ _ from h3b.out) (show Reads (w11.drewN q2) _ _ from hO11b.out.reads)).mono ?_); rintro e w13 ⟨rfl, q3, rfl⟩)
            | fail)
          have hOf := Lib.hid (hO11b.out.drewN (q2 + q3))
          have hBf := Lib.hid (below_drewN hB11 (q2 + q3))
          obtain ⟨wz, hwz⟩ : ∃ wz, w11.drewN (q2 + q3) = wz := ⟨_, rfl⟩
          rw [hwz] at hOf hBf ⊢
          clear hwz hO11b h2b h3b hB11 hR11 hb11 hO11 H1' H2' H3' H7' HB9 hO hB hBw
          go_wp2_with fail
          go_loopw [18] (fun vk wr => ∃ (k : Nat), vk = .int .i64 k ∧ 1 ≤ k ∧ k ≤ F1 ∧ wz = wr) (fun vk _ => F1 - (intOf vk).toNat)
          case atStart => exact ⟨1, rfl, Nat.le_refl _, f1, rfl⟩
          case round =>
            obtain ⟨k, rfl, hk1, hkF, rfl⟩ := hrel
            have hkM : k < M := by omega
            have hkz : (k : Int) < (M : Int) := by omega
            by_cases hkeq : k = F1
            · subst hkeq
              obtain ⟨c, hcc⟩ : ∃ c, wtN X k = c := ⟨_, rfl⟩
              have cc := (hOf.out.cell hkM).trans (congrArg (fun z : Nat => some (Value.int .i64 (z : Int))) hcc)
              have hc0 : 0 < c := by rw [← hcc]; exact HF3.out
              have hcz : ((c : Int) == 0) = false := by simp; omega
              have hcz2 : ¬ ((c : Int) = 0) := by omega
              clear hcc
              go_wp2_with fail
              go_ret
              exact ⟨rfl, hBf.out⟩
            · have cc := (hOf.out.cell hkM).trans (congrArg (fun z : Nat => some (Value.int .i64 (z : Int))) (HF4.out k hk1 (by omega)))
              go_wp2_with fail
              go_roundw
              case rel => exact ⟨k + 1, by go_num, by omega, by omega, by first | rfl | trivial⟩
              case measure => simp [intOf]; omega
  · have CG := Lib.hid (fun W hr => lin_Weights_bad nz l ao m cap W hl h63 hlt hE hr)
    have CF := Lib.hid (fun W hr => lin_Far_bad nz l ao m cap W hl h63 hlt hE hr)
    obtain ⟨E, hEE⟩ : ∃ E, wordE nz l = E := ⟨_, rfl⟩
    rw [hEE] at CW CB CG CF HW HK hE
    rw [if_neg hE] at CW CB
    unfold WordPost2 at CW CB
    have h0b : (E == 0) = false := by simp; omega
    have h0c : (E != 0) = true := by simp; omega
    have h0d : (E != E) = false := by simp
    have h0e : (E == E) = true := by simp
    clear hEE hl hlt hE
    go_enter Try.func4, Try.ntmps4
    go_wp2_with (first
      | (go_at_call 13; (refine (CW.out _ hR).mono ?_); rintro e w1 ⟨a1, rfl, hn1, hp1, hR1, hb1⟩)
      | (go_at_call 14; (refine (CB.out _ (hR.out.below hb1)).mono ?_); rintro e w2 ⟨a2, rfl, hn2, hp2, hR2, hb2⟩; have hB2 : Below w.heap.size w w2 := hb1.trans (hb2.mono hb1.size))
      | (go_at_call 15; (refine (CG.out _ (hR.out.below hB2)).mono ?_); rintro e w3 ⟨rfl, hb3⟩; have hB3 : Below w.heap.size w w3 := hB2.trans (hb3.mono hB2.size))
      | (go_at_call 16; (refine (CF.out _ (hR.out.below hB3)).mono ?_); rintro e w4 ⟨rfl, hb4⟩; have hB4 : Below w.heap.size w w4 := hB3.trans (hb4.mono hB3.size))
      | (go_at_call 8; (refine (HW.out _ (hR.out.below hB4)).mono ?_); rintro e w5 ⟨rfl, hb5⟩; have hB5 : Below w.heap.size w w5 := hB4.trans (hb5.mono hB4.size))
      | (go_at_call 17; (refine (HK.out _ (hR.out.below hB5)).mono ?_); rintro e w6 ⟨rfl, hb6⟩; have hB6 : Below w.heap.size w w6 := hB5.trans (hb6.mono hB5.size))
      | fail)
    go_ret
    exact ⟨rfl, hB6⟩
end Go.Proofs.Ytmeffbooabionaa
