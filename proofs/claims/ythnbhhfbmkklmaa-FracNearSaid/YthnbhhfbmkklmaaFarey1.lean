/- frac.Farey and wholeref.FareyOf. (Printed by wip/tools/gen_farey.py.) -/
import Derived.Test.YthnbhhfbmkklmaaSortQ2
import Derived.Test.YthnbhhfbmkklmaaMem2
import Derived.Test.YthnbhhfbmkklmaaEuclid
import Derived.Test.YthnbhhfbmkklmaaRestB
namespace Go.Proofs.Ythnbhhfbmkklmaa
open Go.RowKit Go.Shelf

def mkQ (p q : Nat) : QF := if h : 1 ≤ q ∧ q ≤ 30 ∧ p ≤ 30 then ⟨(p, q), h⟩ else default
theorem encQ_mk {p q : Nat} (h1 : 1 ≤ q) (h2 : q ≤ 30) (h3 : p ≤ 30) : encQ (mkQ p q) = [.int .i64 p, .int .i64 q] := by
  unfold mkQ
  rw [dif_pos ⟨h1, h2, h3⟩]
  rfl
/-- Of the denominator q those with numerators below k. -/
def frQ (q k : Nat) : List QF := ((List.range k).filter fun p => decide (Nat.gcd p q = 1)).map fun p => mkQ p q
theorem frQ_zero (q : Nat) : frQ q 0 = [] := rfl
theorem frQ_yes {q k : Nat} (h : Nat.gcd k q = 1) : frQ q (k + 1) = frQ q k ++ [mkQ k q] := by
  unfold frQ
  rw [List.range_succ, List.filter_append, List.map_append]
  simp [h]
theorem frQ_no {q k : Nat} (h : Nat.gcd k q ≠ 1) : frQ q (k + 1) = frQ q k := by
  unfold frQ
  rw [List.range_succ, List.filter_append, List.map_append]
  simp [h]
theorem frQ_len (q k : Nat) : (frQ q k).length ≤ k := by
  unfold frQ
  rw [List.length_map]
  exact Nat.le_trans (List.length_filter_le _ _) (by simp)
def flQ (n : Nat) : List QF := (List.range n).flatMap fun i => frQ (i + 1) (i + 2)
theorem flQ_succ (n : Nat) : flQ (n + 1) = flQ n ++ frQ (n + 1) (n + 2) := by
  unfold flQ
  rw [List.range_succ, List.flatMap_append]
  simp
theorem flQ_len : ∀ n, n ≤ 30 → (flQ n).length ≤ n * 32
  | 0, _ => by simp [flQ]
  | n + 1, h => by
    have ih := flQ_len n (by omega)
    have := frQ_len (n + 1) (n + 2)
    rw [flQ_succ, List.length_append]
    omega
theorem frInfo : ElemRow Try.prog 23 (.agg #[.int .i64 0, .int .i64 0]) 2 16 := elemRow_of (by kernel_rfl) rfl (by omega)
theorem encQ_snoc (L : List QF) {p q : Nat} (h1 : 1 ≤ q) (h2 : q ≤ 30) (h3 : p ≤ 30) : (L ++ [mkQ p q]).flatMap encQ = L.flatMap encQ ++ [.int .i64 p, .int .i64 q] := by
  rw [List.flatMap_append]
  congr 1
  simp [encQ_mk h1 h2 h3]
theorem flQ_pos : ∀ n, 1 ≤ n → 0 < (flQ n).length
  | 1, _ => by decide
  | n + 2, _ => by
    have := flQ_pos (n + 1) (by omega)
    rw [flQ_succ, List.length_append]
    omega
set_option maxHeartbeats 400000 in
theorem clip_frac (ao : Option Addr) (n cap : Nat) (w : World) (h63 : cap ≤ 9223372036854775807) (hc : n ≤ cap) :
    Calls Try.prog 47 #[.slice ao n cap] w fun e w' => e = .returned (.slice ao n n) ∧ w' = w := by
  go_enter Try.func47, Try.ntmps47
  go_wp2_with fail
  go_ret
  exact ⟨rfl, rfl⟩
/-- What Farey hands back. -/
def FareyPost (N : Nat) (w : World) (e : Ending) (w' : World) : Prop :=
  ∃ g, e = .returned (.tuple #[.slice (some ⟨g, 0, none⟩) (flQ N).length (flQ N).length, .int .i64 0]) ∧ Reads w' (some ⟨g, 0, none⟩) ((srtQ (flQ N)).flatMap encQ) ∧ Below w.heap.size w w'
def FareyOfPost (N : Nat) (w : World) (e : Ending) (w' : World) : Prop :=
  ∃ g cap, e = .returned (.slice (some ⟨g, 0, none⟩) (flQ N).length cap) ∧ Reads w' (some ⟨g, 0, none⟩) ((srtQ (flQ N)).flatMap encQ) ∧ Below w.heap.size w w'
set_option maxRecDepth 100000 in
set_option maxHeartbeats 8000000 in
theorem frac_Farey (N : Nat) (w : World) (hN1 : 1 ≤ N) (hN : N ≤ 30) :
    Calls Try.prog 9 #[.int .i64 N] w fun e w' => FareyPost N w e w' := by
  have d1 : decide ((N : Int) < 1) = false := by simp; omega
  have d2 : decide ((30 : Int) < N) = false := by simp; omega
  go_enter Try.func9, Try.ntmps9
  go_wp2_with fail
  go_loopw [4, 5] (fun vo vq wr => ∃ q : Nat, vq = .int .i64 q ∧ 1 ≤ q ∧ q ≤ N + 1 ∧ Hid (wr.ownsRow w.heap.size 23 2 vo (flQ (q - 1)).length ((flQ (q - 1)).flatMap encQ)) ∧ Hid (Below w.heap.size w wr)) (fun _ vq _ => N + 1 - (intOf vq).toNat)
  case atStart => exact ⟨1, rfl, by omega, by omega, World.ownsRow_nil _ _ _ _, Below.refl _ _⟩
  case round =>
    obtain ⟨q, rfl, hq1, hq, hO, hb⟩ := hrel
    obtain ⟨wo, rfl⟩ : ∃ wo, wo = wr := ⟨_, rfl⟩
    by_cases hqN : q ≤ N
    · have e1 : decide ((q : Int) ≤ N) = true := by simp; omega
      have hO0 : Hid (wo.ownsRow w.heap.size 23 2 (by exact u4) (flQ (q - 1) ++ frQ q 0).length ((flQ (q - 1) ++ frQ q 0).flatMap encQ)) := by
        rw [frQ_zero, List.append_nil]; exact hO
      go_wp2_with fail
      go_loopw [4, 22] (fun vo vk wr => ∃ k : Nat, vk = .int .i64 k ∧ k ≤ q + 1 ∧ Hid (wr.ownsRow w.heap.size 23 2 vo (flQ (q - 1) ++ frQ q k).length ((flQ (q - 1) ++ frQ q k).flatMap encQ)) ∧ Hid (Below w.heap.size w wr)) (fun _ vk _ => q + 1 - (intOf vk).toNat)
      case atStart => exact ⟨0, rfl, by omega, hO0, hb⟩
      case round =>
        clear hO hb hO0
        obtain ⟨k, rfl, hk, hO, hb⟩ := hrel
        obtain ⟨wi, rfl⟩ : ∃ wi, wi = wr := ⟨_, rfl⟩
        by_cases hkq : k < q + 1
        · have i0 : (0 : Int) ≤ (k : Int) := by omega
          have i1 : (k : Int) < (q : Int) + 1 := by omega
          have eg : gI (k : Int) (q : Int) = (Nat.gcd k q : Int) := by unfold gI; rw [Int.gcd_natCast_natCast]
          obtain ⟨L, hL⟩ : ∃ L, flQ (q - 1) ++ frQ q k = L := ⟨_, rfl⟩
          have hlen : L.length ≤ 1000 := by
            have h1 := flQ_len (q - 1) (by omega)
            have h2 := frQ_len q k
            rw [← hL, List.length_append]
            omega
          rw [hL] at hO
          have HL := Lib.hid hL
          obtain ⟨ln, hln⟩ : ∃ ln, L.length = ln := ⟨_, rfl⟩
          rw [hln] at hO hlen
          have HLN := Lib.hid hln
          have m1 : Hid (ln + 1 ≤ maxLen) := Lib.hid (by unfold maxLen; omega)
          have m2 : Hid ((ln + 1) * 16 ≤ 140737488355328) := Lib.hid (by omega)
          clear hL hln
          by_cases hg : Nat.gcd k q = 1
          · have hz : gI (k : Int) (q : Int) = 1 := by rw [eg, hg]; rfl
            have CG := Lib.hid (fun X => euclid_Gcd (k : Int) (q : Int) X (by omega) (by omega) (by omega) (by omega))
            rw [hz] at CG
            clear hz
            have HG := Lib.hid hg
            clear hg eg
            go_wp2_with (first
              | (go_at_call 44; (with_reducible refine (CG.out _).mono ?_); rintro e w2 ⟨rfl, m2', rfl⟩; have hO2 := Lib.hid (own_below hO.out (below_dr _ _ m2')); have hb2 := Lib.hid (below_drewN hb.out m2'))
              | (at_builtin; go_must (refine app_one2 rfl (.tmp 33) (.tmp 37) 27 rfl w.heap.size 23 _ 2 16 Try.underlying27 frInfo _ ln (L.flatMap encQ) (by rfl) hO2.out [.int .i64 k, .int .i64 q] (by rfl) rfl (by intro u hu; simp at hu; rcases hu with rfl | rfl <;> rfl) m1.out m2.out hb2.out.size ?_); intro v8 w8 hown8 hgr8 hb8 hvb8)
              | fail)
            have hO8 : Hid (w8.ownsRow w.heap.size 23 2 v8 (flQ (q - 1) ++ frQ q (k + 1)).length ((flQ (q - 1) ++ frQ q (k + 1)).flatMap encQ)) := by
              rw [frQ_yes HG.out, ← List.append_assoc, HL.out, encQ_snoc L hq1 (by omega) (by omega), List.length_append, List.length_singleton, HLN.out]; exact hown8
            have hB8 := Lib.hid (hb2.out.trans hb8)
            clear hown8 hgr8 hb8 hvb8
            go_roundw
            case rel => exact ⟨k + 1, by go_num, by omega, hO8, hB8⟩
            case measure => simp [intOf]; omega
          · have CG := Lib.hid (fun X => euclid_Gcd (k : Int) (q : Int) X (by omega) (by omega) (by omega) (by omega))
            rw [eg] at CG
            have gz : ((Nat.gcd k q : Int) == 1) = false := beq_eq_false_iff_ne.2 (by omega)
            have gz2 : ¬ (Nat.gcd k q = 1) := hg
            have HG := Lib.hid hg
            clear hg eg
            go_wp2_with (first
              | (go_at_call 44; (with_reducible refine (CG.out _).mono ?_); rintro e w2 ⟨rfl, m2', rfl⟩; have hO2 := Lib.hid (own_below hO.out (below_dr _ _ m2')); have hb2 := Lib.hid (below_drewN hb.out m2'))
              | fail)
            have hO8 := hO2
            rw [← HLN.out, ← HL.out, ← frQ_no HG.out] at hO8
            go_roundw
            case rel => exact ⟨k + 1, by go_num, by omega, hO8, hb2⟩
            case measure => simp [intOf]; omega
        · obtain rfl : k = q + 1 := by omega
          have hO9 := hO
          rw [show flQ (q - 1) ++ frQ q (q + 1) = flQ (q + 1 - 1) by
            obtain ⟨j, rfl⟩ : ∃ j, q = j + 1 := ⟨q - 1, by omega⟩
            exact (flQ_succ j).symm] at hO9
          go_wp2_with fail
          go_roundw
          case rel => exact ⟨q + 1, by go_num, by omega, by omega, hO9, hb⟩
          case measure => simp [intOf]; omega
    · obtain rfl : q = N + 1 := by omega
      have e1 : decide ((N : Int) + 1 ≤ N) = false := by simp; omega
      rw [Nat.add_sub_cancel] at hO
      have hpos := flQ_pos N hN1
      have hln := flQ_len N hN
      have hne : (flQ N).flatMap encQ ≠ [] := fun e => by have := congrArg List.length e; rw [flat_len2, List.length_nil] at this; omega
      obtain ⟨g, cg, rfl, hO1⟩ := own_formK hO.out hne rfl
      have hG : ∀ args w, (callFunc 46 args).run Try.prog w = .ok (.enter 46 args) w := enters_of Try.func46 (by kernel_rfl) rfl
      have CS := Lib.hid (sort_frac 46 hG farey1 (flQ N) (flQ N).length w.heap.size g cg wo rfl (by omega) hO1)
      have hgb := (World.ownsRow.lt hO1 g rfl).1
      have hcap : (flQ N).length ≤ cg ∧ cg ≤ 9223372036854775807 := by
        rcases hO1.2 with ⟨h0, _⟩ | ⟨g', cap', cur, hv, _, _, h1, h2, _, _⟩
        · cases h0
        · injection hv with _ _ e3
          subst e3
          exact ⟨h1, by unfold maxLen at h2; omega⟩
      obtain ⟨D, hD⟩ : ∃ D, (flQ N).length = D := ⟨_, rfl⟩
      have HD := Lib.hid hD
      rw [hD] at CS hcap ⊢
      obtain ⟨c1, c2⟩ := hcap
      clear hD hO hO1 hpos hln hne hG
      go_wp2_with (first
        | (go_at_call 45; (with_reducible refine CS.out.mono ?_); rintro e w5 ⟨rfl, hown5, hg5⟩)
        | (go_at_call 47; (with_reducible refine (clip_frac (some ⟨g, 0, none⟩) D cg w5 c2 c1).mono ?_); rintro e w6 ⟨rfl, rfl⟩)
        | fail)
      go_ret2
      obtain ⟨ao, c3, hv, hR5, _⟩ := own_reads hown5
      cases hv
      have hbel := hb.out.grown hg5 hb.out.size (fun q hq => by cases hq; exact hgb)
      exact ⟨g, by rw [HD.out]; rfl, hR5, hbel⟩
set_option maxRecDepth 100000 in
set_option maxHeartbeats 8000000 in
theorem ref_FareyOf (N : Nat) (w : World) (hN1 : 1 ≤ N) (hN : N ≤ 30) :
    Calls Try.prog 11 #[.int .i64 N] w fun e w' => FareyOfPost N w e w' := by
  have d1 : decide ((N : Int) < 1) = false := by simp; omega
  have d2 : decide ((30 : Int) < N) = false := by simp; omega
  go_enter Try.func11, Try.ntmps11
  go_wp2_with fail
  go_loopw [3, 4] (fun vo vq wr => ∃ q : Nat, vq = .int .i64 q ∧ 1 ≤ q ∧ q ≤ N + 1 ∧ Hid (wr.ownsRow w.heap.size 23 2 vo (flQ (q - 1)).length ((flQ (q - 1)).flatMap encQ)) ∧ Hid (Below w.heap.size w wr)) (fun _ vq _ => N + 1 - (intOf vq).toNat)
  case atStart => exact ⟨1, rfl, by omega, by omega, World.ownsRow_nil _ _ _ _, Below.refl _ _⟩
  case round =>
    obtain ⟨q, rfl, hq1, hq, hO, hb⟩ := hrel
    obtain ⟨wo, rfl⟩ : ∃ wo, wo = wr := ⟨_, rfl⟩
    by_cases hqN : q ≤ N
    · have e1 : decide ((q : Int) ≤ N) = true := by simp; omega
      have hO0 : Hid (wo.ownsRow w.heap.size 23 2 (by exact u3) (flQ (q - 1) ++ frQ q 0).length ((flQ (q - 1) ++ frQ q 0).flatMap encQ)) := by
        rw [frQ_zero, List.append_nil]; exact hO
      go_wp2_with fail
      go_loopw [3, 13] (fun vo vk wr => ∃ k : Nat, vk = .int .i64 k ∧ k ≤ q + 1 ∧ Hid (wr.ownsRow w.heap.size 23 2 vo (flQ (q - 1) ++ frQ q k).length ((flQ (q - 1) ++ frQ q k).flatMap encQ)) ∧ Hid (Below w.heap.size w wr)) (fun _ vk _ => q + 1 - (intOf vk).toNat)
      case atStart => exact ⟨0, rfl, by omega, hO0, hb⟩
      case round =>
        clear hO hb hO0
        obtain ⟨k, rfl, hk, hO, hb⟩ := hrel
        obtain ⟨wi, rfl⟩ : ∃ wi, wi = wr := ⟨_, rfl⟩
        by_cases hkq : k < q + 1
        · have i0 : (0 : Int) ≤ (k : Int) := by omega
          have i1 : (k : Int) < (q : Int) + 1 := by omega
          have eg : gI (k : Int) (q : Int) = (Nat.gcd k q : Int) := by unfold gI; rw [Int.gcd_natCast_natCast]
          obtain ⟨L, hL⟩ : ∃ L, flQ (q - 1) ++ frQ q k = L := ⟨_, rfl⟩
          have hlen : L.length ≤ 1000 := by
            have h1 := flQ_len (q - 1) (by omega)
            have h2 := frQ_len q k
            rw [← hL, List.length_append]
            omega
          rw [hL] at hO
          have HL := Lib.hid hL
          obtain ⟨ln, hln⟩ : ∃ ln, L.length = ln := ⟨_, rfl⟩
          rw [hln] at hO hlen
          have HLN := Lib.hid hln
          have m1 : Hid (ln + 1 ≤ maxLen) := Lib.hid (by unfold maxLen; omega)
          have m2 : Hid ((ln + 1) * 16 ≤ 140737488355328) := Lib.hid (by omega)
          clear hL hln
          by_cases hg : Nat.gcd k q = 1
          · have hz : (gI (k : Int) (q : Int) == 1) = true := by rw [eg, hg]; rfl
            have CG := Lib.hid (fun X => ref_Coprime (k : Int) (q : Int) X (by omega) (by omega) (by omega) (by omega))
            rw [hz] at CG
            clear hz
            have hO2 := hO
            have hb2 := hb
            have HG := Lib.hid hg
            clear hg eg
            go_wp2_with (first
              | (go_at_call 48; (with_reducible refine (CG.out _).mono ?_); rintro e w2 ⟨rfl, rfl⟩)
              | (at_builtin; go_must (refine app_one2 rfl (.tmp 19) (.tmp 23) 27 rfl w.heap.size 23 _ 2 16 Try.underlying27 frInfo _ ln (L.flatMap encQ) (by rfl) hO2.out [.int .i64 k, .int .i64 q] (by rfl) rfl (by intro u hu; simp at hu; rcases hu with rfl | rfl <;> rfl) m1.out m2.out hb2.out.size ?_); intro v8 w8 hown8 hgr8 hb8 hvb8)
              | fail)
            have hO8 : Hid (w8.ownsRow w.heap.size 23 2 v8 (flQ (q - 1) ++ frQ q (k + 1)).length ((flQ (q - 1) ++ frQ q (k + 1)).flatMap encQ)) := by
              rw [frQ_yes HG.out, ← List.append_assoc, HL.out, encQ_snoc L hq1 (by omega) (by omega), List.length_append, List.length_singleton, HLN.out]; exact hown8
            have hB8 := Lib.hid (hb2.out.trans hb8)
            clear hown8 hgr8 hb8 hvb8
            go_roundw
            case rel => exact ⟨k + 1, by go_num, by omega, hO8, hB8⟩
            case measure => simp [intOf]; omega
          · have hz : (gI (k : Int) (q : Int) == 1) = false := by rw [eg]; exact beq_eq_false_iff_ne.2 (by omega)
            have CG := Lib.hid (fun X => ref_Coprime (k : Int) (q : Int) X (by omega) (by omega) (by omega) (by omega))
            rw [hz] at CG
            clear hz
            have hO2 := hO
            have hb2 := hb
            have HG := Lib.hid hg
            clear hg eg
            go_wp2_with (first
              | (go_at_call 48; (with_reducible refine (CG.out _).mono ?_); rintro e w2 ⟨rfl, rfl⟩)
              | fail)
            have hO8 := hO2
            rw [← HLN.out, ← HL.out, ← frQ_no HG.out] at hO8
            go_roundw
            case rel => exact ⟨k + 1, by go_num, by omega, hO8, hb2⟩
            case measure => simp [intOf]; omega
        · obtain rfl : k = q + 1 := by omega
          have hO9 := hO
          rw [show flQ (q - 1) ++ frQ q (q + 1) = flQ (q + 1 - 1) by
            obtain ⟨j, rfl⟩ : ∃ j, q = j + 1 := ⟨q - 1, by omega⟩
            exact (flQ_succ j).symm] at hO9
          go_wp2_with fail
          go_roundw
          case rel => exact ⟨q + 1, by go_num, by omega, by omega, hO9, hb⟩
          case measure => simp [intOf]; omega
    · obtain rfl : q = N + 1 := by omega
      have e1 : decide ((N : Int) + 1 ≤ N) = false := by simp; omega
      rw [Nat.add_sub_cancel] at hO
      have hpos := flQ_pos N hN1
      have hln := flQ_len N hN
      have hne : (flQ N).flatMap encQ ≠ [] := fun e => by have := congrArg List.length e; rw [flat_len2, List.length_nil] at this; omega
      obtain ⟨g, cg, rfl, hO1⟩ := own_formK hO.out hne rfl
      have hG : ∀ args w, (callFunc 49 args).run Try.prog w = .ok (.enter 49 args) w := enters_of Try.func49 (by kernel_rfl) rfl
      have CS := Lib.hid (sort_frac 49 hG fareyOf1 (flQ N) (flQ N).length w.heap.size g cg wo rfl (by omega) hO1)
      have hgb := (World.ownsRow.lt hO1 g rfl).1
      have hcap : (flQ N).length ≤ cg ∧ cg ≤ 9223372036854775807 := by
        rcases hO1.2 with ⟨h0, _⟩ | ⟨g', cap', cur, hv, _, _, h1, h2, _, _⟩
        · cases h0
        · injection hv with _ _ e3
          subst e3
          exact ⟨h1, by unfold maxLen at h2; omega⟩
      obtain ⟨D, hD⟩ : ∃ D, (flQ N).length = D := ⟨_, rfl⟩
      have HD := Lib.hid hD
      rw [hD] at CS hcap ⊢
      obtain ⟨c1, c2⟩ := hcap
      clear hD hO hO1 hpos hln hne hG
      go_wp2_with (first
        | (go_at_call 45; (with_reducible refine CS.out.mono ?_); rintro e w5 ⟨rfl, hown5, hg5⟩)
        | fail)
      go_ret
      obtain ⟨ao, c3, hv, hR5, _⟩ := own_reads hown5
      cases hv
      have hbel := hb.out.grown hg5 hb.out.size (fun q hq => by cases hq; exact hgb)
      exact ⟨g, cg, by rw [HD.out]; rfl, hR5, hbel⟩
end Go.Proofs.Ythnbhhfbmkklmaa
