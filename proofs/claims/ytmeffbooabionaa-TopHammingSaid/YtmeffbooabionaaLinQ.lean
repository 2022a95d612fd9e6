/- LinearDual: the law's walk. -/
import Derived.Test.YtmeffbooabionaaHmM47
import Derived.Test.YtmeffbooabionaaArgs
set_option linter.unusedVariables false
set_option linter.unusedSimpArgs false
namespace Go.Proofs.Ytmeffbooabionaa
open Go.RowKit

theorem u16_wfI {a : Int} (h : (Lit.int .u16 a).wf = true) : 0 ≤ a ∧ a ≤ 65535 := by
  simpa [Lit.wf, IntKind.min, IntKind.max, IntKind.signed, IntKind.bits] using h
theorem natsIn {w : World} {ao : Option Addr} {n : Nat} {zs : List Int} (h : IntsIn .u16 w ao n zs) : ∃ l : List Nat, l.length = n ∧ n ≤ 9223372036854775807 ∧ (∀ x ∈ l, x < 65536) ∧ Reads w ao (cellsU l) := by
  obtain ⟨h1, h2, h3, h4⟩ := h
  refine ⟨zs.map Int.toNat, by rw [List.length_map]; exact h1, h2, fun x hx => ?_, ?_⟩
  · obtain ⟨z, hz, rfl⟩ := List.mem_map.1 hx
    have := u16_wfI (h3 z hz)
    omega
  · have e : cellsU (zs.map Int.toNat) = zs.map (Value.int .u16) := by
      unfold cellsU
      rw [List.map_map]
      refine List.map_congr_left fun z hz => ?_
      have := u16_wfI (h3 z hz)
      show Value.int .u16 ((z.toNat : Nat) : Int) = _
      rw [Int.toNat_of_nonneg this.1]
    rw [e]
    exact h4
theorem same_u16 (xs : List Nat) (len : Nat) (ao bo : Option Addr) (ca cb : Nat) (w : World) (hl : xs.length = len) (hlx : len ≤ 9223372036854775807) (hX : Hid (Reads w ao (cellsU xs))) (hY : Hid (Reads w bo (cellsU xs))) :
    Calls Try.prog 11 #[.slice ao len ca, .slice bo len cb] w fun e w' => e = .returned (.bool true) ∧ ∃ n, w' = w.drewN n := by
  have hl2 : (xs.map fun x : Nat => (x : Int)).length = len := by rw [List.length_map, hl]
  have h := equal_u16 (xs.map fun x : Nat => (x : Int)) (xs.map fun x : Nat => (x : Int)) ao bo ca cb w (by rw [hl2]; exact hlx) (by rw [hl2]; exact hlx) (by rw [← cellsU_cast]; exact hX) (by rw [← cellsU_cast]; exact hY)
  rw [hl2, decide_eq_true rfl] at h
  have HC := Lib.hid h
  clear h hl2
  go_enter Try.func11, Try.ntmps11
  go_wp2_with fail
  refine HC.out.mono ?_
  rintro e w' ⟨rfl, m, rfl⟩
  go_wp2_with fail
  go_ret
  exact ⟨rfl, m, rfl⟩
theorem wordsL_lt {l : List Nat} {N : Nat} (hN : N ≤ 12) (h : ∀ g ∈ l, g < 2 ^ N) : ∀ x ∈ wordsL l, x < 65536 := fun x hx => by
  have := allX_lt h x ((mem_wordsL l x).1 hx)
  have := two_le16 hN
  omega
theorem wordsL_64 {l : List Nat} (h : l.length ≤ 6) : (wordsL l).length ≤ 64 := Nat.le_trans (wordsL_len l) (Nat.le_trans (Nat.pow_le_pow_right (by omega) h) (by decide))
theorem crossN_len (N : Nat) (W : List Nat) (hN : N ≤ 12) : (crossN N W).length ≤ 4096 := by
  unfold crossN
  refine Nat.le_trans (List.length_filter_le _ _) ?_
  rw [List.length_range]
  exact two_le16 hN
theorem crossN_lt (N : Nat) (W : List Nat) (hN : N ≤ 12) : ∀ x ∈ crossN N W, x < 65536 := fun x hx => by
  unfold crossN at hx
  have := List.mem_range.1 (List.mem_filter.1 hx).1
  have := two_le16 hN
  omega
theorem baseL_len (l : List Nat) : (baseL l).length ≤ l.length := by
  unfold baseL
  rw [List.length_reverse, srtU_len]
  exact baseR_len l
set_option maxRecDepth 100000 in
set_option maxHeartbeats 4000000 in
theorem linearDual_walk (nz : Int) (ao : Option Addr) (m cap : Nat) (zs : List Int) (w : World) (hwf : (Lit.int .i64 nz).wf = true) (h : IntsIn .u16 w ao m zs ∧ CapOk ao m cap) :
    Calls Try.prog 3 #[.int .i64 nz, .slice ao m cap] w fun e w' => e = .returned (.bool true) ∧ Below w.heap.size w w' := by
  obtain ⟨l, hl, h63, hlt, hR0⟩ := natsIn h.1
  have hR : Hid (Reads w ao (cellsU l)) := hR0
  clear h zs hR0 hwf
  have HW := Lib.hid (fun W hr => ref_WordErr nz l ao m cap W hl h63 hlt hr)
  by_cases hE : wordE nz l = 0
  · obtain ⟨n1, n12, h6, hltN⟩ := wordE_zero hE
    obtain ⟨N, rfl⟩ : ∃ N : Nat, nz = (N : Int) := ⟨nz.toNat, by omega⟩
    rw [Int.toNat_natCast] at hltN
    rw [hE] at HW
    have hN : N ≤ 12 := by omega
    have C1 := Lib.hid (lin_Dual N m l ao cap w (by omega) hN hl (by omega) hE hR)
    have C2 := Lib.hid (fun W hr => ref_AllWords m l ao cap W hl (by omega) hlt hr)
    obtain ⟨X, hX⟩ : ∃ X, wordsL l = X := ⟨_, rfl⟩
    have hXl : ∀ x ∈ X, x < 65536 := by rw [← hX]; exact wordsL_lt hN hltN
    have hX64 : X.length ≤ 64 := by rw [← hX]; exact wordsL_64 h6
    obtain ⟨D, hD⟩ : ∃ D, X.length = D := ⟨_, rfl⟩
    rw [hD] at hX64
    have C3 := Lib.hid (fun a c W hr => ref_BaseOf D X a c W hD (by omega) hXl hr)
    have C4 := Lib.hid (fun a c W hr => ref_Crosswise N D X a c W (by omega) hN hD (by omega) hXl hr)
    have hbl := base_law hlt
    have hdl := dual_law N l hN
    rw [hX] at hbl hdl C2
    rw [hbl] at C3
    obtain ⟨Y, hY⟩ : ∃ Y, crossN N X = Y := ⟨_, rfl⟩
    have hYl : ∀ x ∈ Y, x < 65536 := by rw [← hY]; exact crossN_lt N X hN
    have hYn : Y.length ≤ 4096 := by rw [← hY]; exact crossN_len N X hN
    obtain ⟨yl, hyl⟩ : ∃ yl, Y.length = yl := ⟨_, rfl⟩
    rw [hyl] at hYn
    have C5 := Lib.hid (fun a c W hr => ref_BaseOf yl Y a c W hyl (by omega) hYl hr)
    rw [hY] at C4 hdl
    rw [hdl] at C5
    obtain ⟨b, hb⟩ : ∃ b, (baseL l).length = b := ⟨_, rfl⟩
    have hb6 : b ≤ 6 := by rw [← hb]; exact Nat.le_trans (baseL_len l) h6
    rw [hb] at C1
    unfold AllPost at C2 C3 C4 C5
    rw [hb] at C3
    rw [hD] at C2
    rw [hyl] at C4
    by_cases h6N : 6 + b < N
    · rw [if_pos h6N] at C1
      have z6 : (6 : Int) < (N : Int) - (b : Int) := by omega
      unfold WordPost2 at C1
      clear C4 C5 hbl hdl hX hY hyl hD hb hE hltN hlt
      go_enter Try.func3, Try.ntmps3
      go_wp2_with (first
        | (go_at_call 7; (refine C1.out.mono ?_); rintro e w1 ⟨a1, rfl, hn1, hp1, hR1, hb1⟩)
        | (go_at_call 8; (refine (HW.out _ (hR.out.below hb1)).mono ?_); rintro e w2 ⟨rfl, hb2⟩; have hB2 : Below w.heap.size w w2 := hb1.trans (hb2.mono hb1.size))
        | (go_at_call 9; (refine (C2.out _ (hR.out.below hB2)).mono ?_); rintro e w3 ⟨v3, rfl, hO3, hb3⟩; obtain ⟨a3, c3, rfl, hR3, hn3, _, _⟩ := own_dataK hO3; have hB3 : Below w.heap.size w w3 := hB2.trans (hb3.mono hB2.size))
        | (go_at_call 10; (refine (C3.out a3 c3 _ hR3).mono ?_); rintro e w4 ⟨v4, rfl, hO4, hb4⟩; obtain ⟨a4, c4, rfl, hR4, hn4, _, _⟩ := own_dataK hO4; have hB4 : Below w.heap.size w w4 := hB3.trans (hb4.mono hB3.size))
        | fail)
      go_ret
      exact ⟨rfl, hB4⟩
    · rw [if_neg h6N] at C1
      have z6 : ¬ ((6 : Int) < (N : Int) - (b : Int)) := by omega
      unfold WordPost2 at C1
      obtain ⟨Z, hZ⟩ : ∃ Z, baseL (crossN N l) = Z := ⟨_, rfl⟩
      obtain ⟨zl, hzl⟩ : ∃ zl, Z.length = zl := ⟨_, rfl⟩
      have hZn : zl ≤ 4096 := by
        rw [← hzl, ← hZ]
        exact Nat.le_trans (baseL_len _) (crossN_len N l hN)
      rw [hZ] at C1 C5
      rw [hzl] at C1 C5
      have CS := Lib.hid (fun a1 a2 c1 c2 W h1 h2 => same_u16 Z zl a1 a2 c1 c2 W hzl (by omega) h1 h2)
      clear hbl hdl hX hY hyl hD hb hE hltN hlt hZ hzl
      go_enter Try.func3, Try.ntmps3
      go_wp2_with (first
        | (go_at_call 7; (refine C1.out.mono ?_); rintro e w1 ⟨a1, rfl, hn1, hp1, hR1, hb1⟩)
        | (go_at_call 8; (refine (HW.out _ (hR.out.below hb1)).mono ?_); rintro e w2 ⟨rfl, hb2⟩; have hB2 : Below w.heap.size w w2 := hb1.trans (hb2.mono hb1.size); have hR1b := hR1.below hb2)
        | (go_at_call 9; (refine (C2.out _ (hR.out.below hB2)).mono ?_); rintro e w3 ⟨v3, rfl, hO3, hb3⟩; obtain ⟨a3, c3, rfl, hR3, hn3, _, _⟩ := own_dataK hO3; have hB3 : Below w.heap.size w w3 := hB2.trans (hb3.mono hB2.size); have hR1c := hR1b.below hb3)
        | (go_at_call 10; (refine (C5.out a5 c5 _ hR5).mono ?_); rintro e w6 ⟨v6, rfl, hO6, hb6⟩; obtain ⟨a6, c6, rfl, hR6, hn6, _, _⟩ := own_dataK hO6; have hB6 : Below w.heap.size w w6 := hB5.trans (hb6.mono hB5.size); have hR1f := hR1e.below hb6)
        | (go_at_call 10; (refine (C3.out a3 c3 _ hR3).mono ?_); rintro e w4 ⟨v4, rfl, hO4, hb4⟩; obtain ⟨a4, c4, rfl, hR4, hn4, _, _⟩ := own_dataK hO4; have hB4 : Below w.heap.size w w4 := hB3.trans (hb4.mono hB3.size); have hR1d := hR1c.below hb4; have hR3d := hR3.below hb4)
        | (go_at_call 12; (refine (C4.out a3 c3 _ hR3d).mono ?_); rintro e w5 ⟨v5, rfl, hO5, hb5⟩; obtain ⟨a5, c5, rfl, hR5, hn5, _, _⟩ := own_dataK hO5; have hB5 : Below w.heap.size w w5 := hB4.trans (hb5.mono hB4.size); have hR1e := hR1d.below hb5)
        | (go_at_call 11; (refine (CS.out a1 a6 _ _ _ hR1f hR6).mono ?_); rintro e w7 ⟨rfl, q, rfl⟩)
        | fail)
      go_ret
      exact ⟨rfl, below_drewN hB6 q⟩
  · have C1 := Lib.hid (lin_Dual_bad nz l ao m cap w hl h63 hlt hE hR)
    obtain ⟨E, hEE⟩ : ∃ E, wordE nz l = E := ⟨_, rfl⟩
    rw [hEE] at C1 hE HW
    have h0b : (E == 0) = false := by simp; omega
    have h0c : (E != 0) = true := by simp; omega
    clear hEE hl hlt
    go_enter Try.func3, Try.ntmps3
    go_wp2_with (first
      | (go_at_call 7; (refine C1.out.mono ?_); rintro e w1 ⟨rfl, hb1⟩)
      | (go_at_call 8; (refine (HW.out _ (hR.out.below hb1)).mono ?_); rintro e w2 ⟨rfl, hb2⟩; have hB2 : Below w.heap.size w w2 := hb1.trans (hb2.mono hb1.size))
      | fail)
    go_ret
    exact ⟨rfl, hB2⟩
end Go.Proofs.Ytmeffbooabionaa
