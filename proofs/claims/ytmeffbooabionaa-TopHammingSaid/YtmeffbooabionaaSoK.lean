/- slices.breakPatternsOrdered at uint16. (Printed by wip/tools/gen_sortu.py.) -/
import Derived.Test.YtmeffbooabionaaSoJ
import Derived.Deep.DeepCutAuto
import Derived.Deep.CutBlock
set_option linter.unusedVariables false
set_option linter.unusedSimpArgs false
namespace Go.Proofs.Ytmeffbooabionaa
open Go.RowKit

section
variable {d : Array Nat} {a b l M i k X o : Nat} {r : UInt64}
def bpRest (a l M : Nat) : Nat → Nat → UInt64 × Array Nat → UInt64 × Array Nat
  | _, 0, st => st
  | i, k + 1, st => bpRest a l M (i + 1) k (Sort.breakStep a l M st i)
theorem bp_eq (hl : b - a = l) (h8 : 8 ≤ l) : Sort.breakPatterns d a b = (bpRest a l (1 <<< Sort.bitsLen l) (a + l / 4 * 2 - 1) 3 (UInt64.ofNat l, d)).2 := by
  unfold Sort.breakPatterns
  simp only [hl]
  rw [if_pos h8]
  rfl
theorem bp_step (ho : (if ((Sort.xorNext r).toNat &&& (M - 1)) ≥ l then ((Sort.xorNext r).toNat &&& (M - 1)) - l else ((Sort.xorNext r).toNat &&& (M - 1))) = o) :
    bpRest a l M i (k + 1) (r, d) = bpRest a l M (i + 1) k (Sort.xorNext r, Sort.swp d i (a + o)) := by
  rw [bpRest]
  unfold Sort.breakStep
  simp only [ho]
end
theorem Own.box {w w' : World} {base T g n cap sb : Nat} {f : Nat → Value} {v : Value} (h : Own w base T g n cap f) (hb : BoxAt w w' sb v) (hne : g ≠ sb) : Own w' base T g n cap f := h.kept hb.grown hne
theorem box_swap {w : World} {g sb i j : Nat} {u v x : Value} (hc : w.cell? ⟨sb, 0, none⟩ = some x) (hne : g ≠ sb) : ((w.setCell ⟨g, i, none⟩ u).setCell ⟨g, j, none⟩ v).cell? ⟨sb, 0, none⟩ = some x := by
  rw [World.cell?_setCell_other _ _ _ _ (by intro e; exact hne (congrArg Addr.block e)), World.cell?_setCell_other _ _ _ _ (by intro e; exact hne (congrArg Addr.block e))]
  exact hc
theorem boxf_swap {w : World} {g sb i j : Nat} {u v : Value} (hc : w.frozen? ⟨sb, 0, none⟩ = false) : ((w.setCell ⟨g, i, none⟩ u).setCell ⟨g, j, none⟩ v).frozen? ⟨sb, 0, none⟩ = false := by
  simpa using hc
set_option maxRecDepth 100000 in
set_option maxHeartbeats 8000000 in
theorem so_break (n : Nat) (d : Array Nat) (a b base g cap : Nat) (w : World) (hn : n ≤ 1000000) (hd : d.size = n) (hab : a + 8 ≤ b) (hbn : b ≤ n) (hO : Own w base 29 g n cap (eU d)) (hb : base ≤ w.heap.size) :
    Calls Try.prog 86 #[.slice (some ⟨g, 0, none⟩) n cap, .int .i64 a, .int .i64 b] w (SoPost base n g cap w (.tuple #[]) (Sort.breakPatterns d a b)) := by
  have hcp := hO.caps
  have hc1 : (n : Int) ≤ (cap : Int) := by omega
  have hc2 := hcp.1
  have hc3 := hcp.2
  obtain ⟨sb, hsb⟩ : ∃ sb, w.heap.size = sb := ⟨_, rfl⟩
  obtain ⟨l, hl⟩ : ∃ l, b - a = l := ⟨_, rfl⟩
  have h8 : 8 ≤ l := by omega
  rw [bp_eq hl h8]
  obtain ⟨w1, hw1⟩ : ∃ w1, w.alloc (.cells #[.int .u64 (l : Int)] 108) = w1 := ⟨_, rfl⟩
  have hne : g ≠ sb := by have := hO.lt; omega
  have HNE := Lib.hid hne
  have hO1 := Lib.hid (show Own w1 base 29 g n cap (eU d) by rw [← hw1]; exact hO.below (Below.alloc (Below.refl _ _) (Nat.le_refl _) _))
  have hX1 := Lib.hid (show w1.cell? ⟨sb, 0, none⟩ = some (.int .u64 (l : Int)) ∧ w1.frozen? ⟨sb, 0, none⟩ = false by rw [← hw1, ← hsb]; simp)
  have hB1 := Lib.hid (show Below base w w1 by rw [← hw1]; exact Below.alloc (Below.refl _ _) hb _)
  have HB : Hid (base ≤ w.heap.size) := hb
  have HSB := Lib.hid (show base ≤ sb by omega)
  obtain ⟨M, hM⟩ : ∃ M, 1 <<< Sort.bitsLen l = M := ⟨_, rfl⟩
  have hMl : l < M := by rw [← hM, Nat.one_shiftLeft]; exact lt_bitsLen l
  have hM2 : M ≤ 2 * l := by
    rw [← hM, Nat.one_shiftLeft]
    have h1 : Sort.bitsLen l = Nat.log2 l + 1 := by unfold Sort.bitsLen; rw [if_neg (by omega)]
    have h2 : 2 ^ Nat.log2 l ≤ l := Nat.log2_self_le (by omega)
    rw [h1, Nat.pow_succ]; omega
  obtain ⟨M1, hM1⟩ : ∃ M1, M - 1 = M1 := ⟨_, rfl⟩
  have CP := Lib.hid (fun W => next_Power l (by omega) W)
  rw [hM] at CP ⊢
  obtain ⟨Q, hQ⟩ : ∃ Q, l / 4 = Q := ⟨_, rfl⟩
  obtain ⟨I0, hI0⟩ : ∃ I0, a + l / 4 * 2 - 1 = I0 := ⟨_, rfl⟩
  rw [hI0]
  have el : (b : Int) - (a : Int) = (l : Int) := by omega
  have l8 : (8 : Int) ≤ (l : Int) := by omega
  have wl : IntKind.u64.wrap (l : Int) = (l : Int) := by rw [IntKind.wrap_u64]; omega
  have eQ : Int.tdiv (l : Int) 4 = (Q : Int) := by rw [Int.tdiv_eq_ediv_of_nonneg (by omega)]; omega
  have eQ2 : (l : Int) / 4 = (Q : Int) := by omega
  obtain ⟨Z, hZ⟩ : ∃ Z, a + Q * 2 = Z := ⟨_, rfl⟩
  have eZ : (a : Int) + (Q : Int) * 2 = (Z : Int) := by omega
  have eI : (Z : Int) - 1 = (I0 : Int) := by omega
  have eM1 : (M : Int) - 1 = (M1 : Int) := by omega
  have wM1 : IntKind.u64.wrap ((M : Int) - 1) = (M1 : Int) := by rw [eM1, IntKind.wrap_u64]; omega
  have hIZ : I0 + 1 = Z := by omega
  have hZb : Z + 1 < n := by omega
  have hIa : a + 1 ≤ I0 := by omega
  have hal : a + l ≤ n := by omega
  have hlM : M1 < 2 * l := by omega
  have hr0 : (UInt64.ofNat l).toNat = l := by rw [UInt64.toNat_ofNat']; omega
  have hMM : M = M1 + 1 := by omega
  have HMM := Lib.hid hMM
  clear hO hb hcp hl hM hM1 hQ hI0 hZ hMM hM2
  go_enter Try.func86, Try.ntmps86
  go_wp2_with (first | (go_at_call 103; refine (CP.out _).mono ?_; rintro e w' ⟨rfl, rfl⟩) | fail)
  go_loopg [9] 3 (fun k s9 wr => ∃ (i : Nat) (r : UInt64) (dk : Array Nat), s9 = .int .i64 i ∧ i + k = I0 + 3 ∧ dk.size = n ∧ Hid (Own wr base 29 g n cap (eU dk)) ∧ Hid (wr.cell? ⟨sb, 0, none⟩ = some (.int .u64 (r.toNat : Int)) ∧ wr.frozen? ⟨sb, 0, none⟩ = false) ∧
    Hid (bpRest a l M i k (r, dk) = bpRest a l M I0 3 (UInt64.ofNat l, d)) ∧ Hid (Below base w wr) ∧ k ≤ 3)
  case atStart => exact ⟨I0, UInt64.ofNat l, d, rfl, rfl, hd, hO1, by rw [hr0]; exact hX1, rfl, hB1, Nat.le_refl _⟩
  case round =>
    clear hO1 hX1 hB1 hr0
    obtain ⟨i, r, dk, rfl, hik, hdk, hO, hX, hE, hB, hk3⟩ := hrel
    cases gk with
    | zero =>
      have t1 : ¬ ((i : Int) ≤ (Z : Int) + 1) := by omega
      have hR := Lib.hid hE.out
      go_wp2
      go_end0
      refine ⟨rfl, ?_, hB.out⟩
      rw [← hR.out]
      exact hO.out
    | succ k =>
      have t1 : (i : Int) ≤ (Z : Int) + 1 := by omega
      have hin : i < n := by omega
      obtain ⟨X, hX0⟩ : ∃ X, r.toNat = X := ⟨_, rfl⟩
      have hXl : X < 18446744073709551616 := by rw [← hX0]; exact r.toNat_lt
      rw [hX0] at hX
      have hX2 : (Sort.xorNext r).toNat = Sort.xorNextN X := by rw [Sort.xorNext_toNat, hX0]
      obtain ⟨X2, hX3⟩ : ∃ X2, Sort.xorNextN X = X2 := ⟨_, rfl⟩
      have CN := Lib.hid (xor_Next sb X hXl wr hX.out.1 hX.out.2)
      rw [hX3] at CN hX2
      have hX2l : X2 < 18446744073709551616 := by rw [← hX2]; exact UInt64.toNat_lt _
      obtain ⟨O1, hO1⟩ : ∃ O1, X2 &&& M1 = O1 := ⟨_, rfl⟩
      have hO1l : O1 ≤ M1 := by rw [← hO1]; exact Nat.and_le_right
      have eA : bits .and .u64 (X2 : Int) (M1 : Int) = (O1 : Int) := by rw [bits_and_u64_nat _ _ hX2l (by omega), hO1]
      have wO : IntKind.i64.wrap (O1 : Int) = (O1 : Int) := IntWalk.i64_in _ (by omega)
      have HX2 := Lib.hid hX2
      have HO1 := Lib.hid hO1
      clear hX0 hX2 hX3 hO1
      by_cases hge : l ≤ O1
      · have t2 : (l : Int) ≤ (O1 : Int) := by omega
        obtain ⟨o, ho⟩ : ∃ o, O1 - l = o := ⟨_, rfl⟩
        have eo : (O1 : Int) - (l : Int) = (o : Int) := by omega
        have hol : o < l := by omega
        have HS := Lib.hid (bp_step (a := a) (l := l) (M := M) (i := i) (k := k) (d := dk) (r := r) (o := o) (by rw [HX2.out, HMM.out, Nat.add_sub_cancel, HO1.out, if_pos hge]; exact ho))
        clear ho
        obtain ⟨P, hP⟩ : ∃ P, a + o = P := ⟨_, rfl⟩
        have eP : (a : Int) + (o : Int) = (P : Int) := by omega
        have hPn : P < n := by omega
        have hE2 := Lib.hid (HS.out.symm.trans hE.out)
        rw [hP] at hE2
        clear hP HS
        go_upto_region 10 with (first | (go_at_call 104; refine CN.out.mono ?_; rintro e w2 ⟨rfl, HBx⟩) | fail)
        have hO5 := Lib.hid (hO.out.box HBx HNE.out)
        have hB5 := Lib.hid (hB.out.grown HBx.grown (Nat.le_trans HB.out hB.out.size) (fun q hq => by cases hq; exact HSB.out))
        have hX5 := Lib.hid (And.intro HBx.cell HBx.frz)
        obtain ⟨x, hx⟩ : ∃ x, dk[i]! = x := ⟨_, rfl⟩
        have c1 := (hO5.out.cell (show i < n by omega)).trans (congrArg some (eU_of hx))
        have f1 := hO5.out.frozen i
        have q1 : (0 : Int) ≤ (i : Int) := by omega
        have q2 : (i : Int) < (n : Int) := by omega
        by_cases hpq : i = P
        · obtain rfl : i = P := hpq
          have HO2 := Lib.hid (own_swap hO5.out hdk (show i < n by omega) (show i < n by omega) hx hx)
          have HB2 := Lib.hid (below_swap (i := i) (j := i) (u := .int .u16 (x : Int)) (v := .int .u16 (x : Int)) hO5.out hB5.out HB.out)
          have HX6 := Lib.hid (And.intro (box_swap (i := i) (j := i) (u := .int .u16 (x : Int)) (v := .int .u16 (x : Int)) hX5.out.1 HNE.out) (boxf_swap (g := g) (i := i) (j := i) (u := .int .u16 (x : Int)) (v := .int .u16 (x : Int)) hX5.out.2))
          clear hx
          go_wp2_with fail
          go_region
          all_goals
            go_wp2_with fail
            go_roundg k
            case measure => omega
            case rel => exact ⟨i + 1, Sort.xorNext r, Sort.swp dk i i, by go_num, by omega, by rw [sz_swp]; exact hdk, own_drew HO2.out, by rw [HX2.out]; exact HX6.out, hE2, below_drewN HB2.out 1, by omega⟩
        · have hpqz : (i : Int) ≠ (P : Int) := by omega
          obtain ⟨y, hy⟩ : ∃ y, dk[P]! = y := ⟨_, rfl⟩
          have c2 := (hO5.out.cell (show P < n by omega)).trans (congrArg some (eU_of hy))
          have f2 := hO5.out.frozen P
          have q3 : (0 : Int) ≤ (P : Int) := by omega
          have q4 : (P : Int) < (n : Int) := by omega
          have HO2 := Lib.hid (own_swap hO5.out hdk (show i < n by omega) (show P < n by omega) hx hy)
          have HB2 := Lib.hid (below_swap (i := i) (j := P) (u := .int .u16 (y : Int)) (v := .int .u16 (x : Int)) hO5.out hB5.out HB.out)
          have HX6 := Lib.hid (And.intro (box_swap (i := i) (j := P) (u := .int .u16 (y : Int)) (v := .int .u16 (x : Int)) hX5.out.1 HNE.out) (boxf_swap (g := g) (i := i) (j := P) (u := .int .u16 (y : Int)) (v := .int .u16 (x : Int)) hX5.out.2))
          clear hx hy
          go_wp2_with fail
          go_region
          all_goals
            go_wp2_with fail
            go_roundg k
            case measure => omega
            case rel => exact ⟨i + 1, Sort.xorNext r, Sort.swp dk i P, by go_num, by omega, by rw [sz_swp]; exact hdk, own_drew HO2.out, by rw [HX2.out]; exact HX6.out, hE2, below_drewN HB2.out 1, by omega⟩
      · have t2 : ¬ ((l : Int) ≤ (O1 : Int)) := by omega
        obtain ⟨o, ho⟩ : ∃ o, O1 = o := ⟨_, rfl⟩
        subst ho
        have hol : O1 < l := by omega
        have HS := Lib.hid (bp_step (a := a) (l := l) (M := M) (i := i) (k := k) (d := dk) (r := r) (o := O1) (by rw [HX2.out, HMM.out, Nat.add_sub_cancel, HO1.out, if_neg hge]))
        obtain ⟨P, hP⟩ : ∃ P, a + O1 = P := ⟨_, rfl⟩
        have eP : (a : Int) + (O1 : Int) = (P : Int) := by omega
        have hPn : P < n := by omega
        have hE2 := Lib.hid (HS.out.symm.trans hE.out)
        rw [hP] at hE2
        clear hP HS
        go_upto_region 10 with (first | (go_at_call 104; refine CN.out.mono ?_; rintro e w2 ⟨rfl, HBx⟩) | fail)
        have hO5 := Lib.hid (hO.out.box HBx HNE.out)
        have hB5 := Lib.hid (hB.out.grown HBx.grown (Nat.le_trans HB.out hB.out.size) (fun q hq => by cases hq; exact HSB.out))
        have hX5 := Lib.hid (And.intro HBx.cell HBx.frz)
        obtain ⟨x, hx⟩ : ∃ x, dk[i]! = x := ⟨_, rfl⟩
        have c1 := (hO5.out.cell (show i < n by omega)).trans (congrArg some (eU_of hx))
        have f1 := hO5.out.frozen i
        have q1 : (0 : Int) ≤ (i : Int) := by omega
        have q2 : (i : Int) < (n : Int) := by omega
        by_cases hpq : i = P
        · obtain rfl : i = P := hpq
          have HO2 := Lib.hid (own_swap hO5.out hdk (show i < n by omega) (show i < n by omega) hx hx)
          have HB2 := Lib.hid (below_swap (i := i) (j := i) (u := .int .u16 (x : Int)) (v := .int .u16 (x : Int)) hO5.out hB5.out HB.out)
          have HX6 := Lib.hid (And.intro (box_swap (i := i) (j := i) (u := .int .u16 (x : Int)) (v := .int .u16 (x : Int)) hX5.out.1 HNE.out) (boxf_swap (g := g) (i := i) (j := i) (u := .int .u16 (x : Int)) (v := .int .u16 (x : Int)) hX5.out.2))
          clear hx
          go_wp2_with fail
          go_region
          all_goals
            go_wp2_with fail
            go_roundg k
            case measure => omega
            case rel => exact ⟨i + 1, Sort.xorNext r, Sort.swp dk i i, by go_num, by omega, by rw [sz_swp]; exact hdk, own_drew HO2.out, by rw [HX2.out]; exact HX6.out, hE2, below_drewN HB2.out 1, by omega⟩
        · have hpqz : (i : Int) ≠ (P : Int) := by omega
          obtain ⟨y, hy⟩ : ∃ y, dk[P]! = y := ⟨_, rfl⟩
          have c2 := (hO5.out.cell (show P < n by omega)).trans (congrArg some (eU_of hy))
          have f2 := hO5.out.frozen P
          have q3 : (0 : Int) ≤ (P : Int) := by omega
          have q4 : (P : Int) < (n : Int) := by omega
          have HO2 := Lib.hid (own_swap hO5.out hdk (show i < n by omega) (show P < n by omega) hx hy)
          have HB2 := Lib.hid (below_swap (i := i) (j := P) (u := .int .u16 (y : Int)) (v := .int .u16 (x : Int)) hO5.out hB5.out HB.out)
          have HX6 := Lib.hid (And.intro (box_swap (i := i) (j := P) (u := .int .u16 (y : Int)) (v := .int .u16 (x : Int)) hX5.out.1 HNE.out) (boxf_swap (g := g) (i := i) (j := P) (u := .int .u16 (y : Int)) (v := .int .u16 (x : Int)) hX5.out.2))
          clear hx hy
          go_wp2_with fail
          go_region
          all_goals
            go_wp2_with fail
            go_roundg k
            case measure => omega
            case rel => exact ⟨i + 1, Sort.xorNext r, Sort.swp dk i P, by go_num, by omega, by rw [sz_swp]; exact hdk, own_drew HO2.out, by rw [HX2.out]; exact HX6.out, hE2, below_drewN HB2.out 1, by omega⟩
end Go.Proofs.Ytmeffbooabionaa
