/- The reference's PairOf. -/
import Derived.Test.YthnbhhfbmkklmaaPair3
namespace Go.Proofs.Ythnbhhfbmkklmaa
open Go.RowKit

set_option maxRecDepth 100000 in
set_option maxHeartbeats 2000000 in
theorem ref_PairOf_bad (ss : List ByteArray) (n : Nat) (ao : Option Addr) (cap : Nat) (w : World) (h : StrsIn w ao n ss) (E : Nat) (hE : chkP ss = E) (hE0 : E ≠ 0) :
    Calls Try.prog 15 #[.slice ao n cap] w (PutBad E w) := by
  obtain ⟨hl, hn, hs, hR⟩ := h
  have hR := Lib.hid hR
  have hs := Lib.hid hs
  by_cases h0 : n = 0
  · have HC : Hid (E = 2) := Lib.hid (by rw [← hE]; unfold chkP; rw [if_pos (by omega)])
    clear hE hE0
    subst h0
    go_enter Try.func15, Try.ntmps15
    go_wp2_with fail
    go_ret3
    exact ⟨by rw [HC.out]; rfl, rfl⟩
  by_cases h1 : 10 < n
  · have e2 : decide ((10 : Int) < n) = true := by simp; omega
    have HC : Hid (E = 2) := Lib.hid (by rw [← hE]; unfold chkP; rw [if_pos (by omega)])
    clear hE hE0
    go_enter Try.func15, Try.ntmps15
    go_wp2_with fail
    go_ret3
    exact ⟨by rw [HC.out]; rfl, rfl⟩
  have e2 : decide ((10 : Int) < n) = false := by simp; omega
  obtain ⟨m, hm⟩ : ∃ m, (sAt ss 0).size = m := ⟨_, rfl⟩
  have HC : Hid (chkGo m ss = E) := Lib.hid (by rw [← hE]; unfold chkP; rw [if_neg (by omega), hm])
  have HL := Lib.hid hl
  obtain ⟨b0, o0, rfl, c0⟩ := hR.out 0 _ (str_at (by omega))
  obtain ⟨s0, hs0⟩ : ∃ s0, sAt ss 0 = s0 := ⟨_, rfl⟩
  have hz0 := hs.out _ (sAt_mem (ss := ss) (k := 0) (by omega))
  rw [hs0] at c0 hz0 hm
  have HM := Lib.hid hm
  have HE0 := Lib.hid hE0
  rw [Nat.add_zero] at c0
  clear hm hs0 hl hE hE0
  have hn0 : 0 < n := by omega
  go_enter Try.func15, Try.ntmps15
  go_wp2_with fail
  go_loop [23] (fun vi => ∃ k : Nat, vi = .int .i64 k ∧ k ≤ n ∧ Hid (chkGo m (ss.drop k) = E)) (fun vi => n - (intOf vi).toNat)
  case atStart => exact ⟨0, rfl, by omega, HC⟩
  case round =>
    obtain ⟨k, rfl, hk, hg⟩ := hrel
    by_cases hkn : k < n
    · obtain ⟨b1, o1, ha, c1⟩ := hR.out k _ (str_at (by have := HL.out; omega))
      cases ha
      have hz := hs.out _ (sAt_mem (ss := ss) (k := k) (by have := HL.out; omega))
      have hdr := drop_at (ss := ss) (k := k) (by have := HL.out; omega)
      obtain ⟨s, hs1⟩ : ∃ s, sAt ss k = s := ⟨_, rfl⟩
      rw [hs1] at c1 hz hdr
      have HD := Lib.hid hdr
      clear hs1 hdr
      by_cases h2 : 64 < s.size
      · have d1 : decide ((64 : Int) < s.size) = true := by simp; omega
        have HE : Hid (E = 2) := Lib.hid (by rw [← hg.out, HD.out]; simp only [chkGo]; rw [if_pos h2])
        go_wp2_with fail
        go_ret3
        exact ⟨by rw [HE.out]; rfl, rfl⟩
      have d1 : decide ((64 : Int) < s.size) = false := by simp; omega
      by_cases h3 : s.size = s0.size
      · have d2 : ((s.size : Int) == (s0.size : Int)) = true := by rw [h3]; simp
        have hg2 : Hid (chkGo m (ss.drop (k + 1)) = E) := Lib.hid (by rw [← hg.out, HD.out]; simp only [chkGo]; rw [if_neg h2, if_neg (by rw [h3, HM.out]; simp)])
        have H3 := Lib.hid h3
        clear h3
        go_wp2_with fail
        go_round
        case rel => exact ⟨k + 1, by go_num, by omega, hg2⟩
        case measure => simp [intOf]; omega
      · have d2 : ((s.size : Int) == (s0.size : Int)) = false := by simp; omega
        have HE : Hid (E = 3) := Lib.hid (by rw [← hg.out, HD.out]; simp only [chkGo]; rw [if_neg h2, if_pos (by rw [← HM.out]; exact h3)])
        go_wp2_with fail
        go_ret3
        exact ⟨by rw [HE.out]; rfl, rfl⟩
    · have : E = 0 := by rw [← hg.out, List.drop_eq_nil_of_le (by have := HL.out; omega)]; rfl
      exact absurd this HE0.out
def rowB (m : Nat) (f : Nat → Nat) : List Value := rowF m fun k => .int .u8 (f k : Nat)
theorem rowB_succ (m : Nat) (f : Nat → Nat) : rowB (m + 1) f = rowB m f ++ [.int .u8 (f m : Nat)] := rowF_succ _ _
theorem rowB_length (m : Nat) (f : Nat → Nat) : (rowB m f).length = m := rowF_length _ _
set_option maxRecDepth 100000 in
set_option maxHeartbeats 4000000 in
theorem ref_PairOf (ss : List ByteArray) (n m : Nat) (ao : Option Addr) (cap : Nat) (w : World) (hr : Right ss n m) (hR : Hid (Reads w ao (ss.map Value.string))) :
    Calls Try.prog 15 #[.slice ao n cap] w (PutPost ss n m w) := by
  obtain ⟨r1, r2, r3, r4, r5⟩ := hr
  have HR1 := Lib.hid r1
  have HR5 := Lib.hid r5
  obtain ⟨b0, o0, rfl, c0⟩ := hR.out 0 _ (str_at (by omega))
  obtain ⟨s0, hs0⟩ : ∃ s0, sAt ss 0 = s0 := ⟨_, rfl⟩
  have hz0 := r5 0 (by omega)
  rw [hs0] at c0 hz0
  rw [Nat.add_zero] at c0
  have n0 : 0 < n := by omega
  have e0 : ((n : Int) == 0) = false := by simp; omega
  have e2 : decide ((10 : Int) < n) = false := by simp; omega
  clear r1 r5 hs0
  go_enter Try.func15, Try.ntmps15
  go_wp2_with fail
  go_loop [23] (fun vi => ∃ k : Nat, vi = .int .i64 k ∧ k ≤ n) (fun vi => n - (intOf vi).toNat)
  case atStart => exact ⟨0, rfl, by omega⟩
  case round =>
    obtain ⟨k, rfl, hk⟩ := hrel
    by_cases hkn : k < n
    · obtain ⟨b1, o1, ha, c1⟩ := hR.out k _ (str_at (by have := HR1.out; omega))
      cases ha
      have hz := HR5.out k hkn
      obtain ⟨s, hs1⟩ : ∃ s, sAt ss k = s := ⟨_, rfl⟩
      rw [hs1] at c1 hz
      have d1 : decide ((64 : Int) < s.size) = false := by simp; omega
      have d2 : ((s.size : Int) == (s0.size : Int)) = true := by rw [hz, hz0]; simp
      clear hs1
      go_wp2_with fail
      go_round
      case rel => exact ⟨k + 1, by go_num, by omega⟩
      case measure => simp [intOf]; omega
    · obtain rfl : k = n := by omega
      go_wp2_with fail
      go_loopw [7, 8, 42] (fun vp vq vi wr => ∃ i : Nat, vi = .int .i64 i ∧ i ≤ m ∧ Hid (wr.ownsRow w.heap.size 5 1 vp i (rowB i fun j => xorN k (colP ss j))) ∧ Hid (wr.ownsRow w.heap.size 5 1 vq i (rowB i fun j => xorN k (wtd (colP ss j)))) ∧ Hid (Apart vp vq) ∧ Hid (Below w.heap.size w wr)) (fun _ _ vi _ => m - (intOf vi).toNat)
      case atStart => exact ⟨0, rfl, by omega, Lib.hid (World.ownsRow_nil _ _ _ _), Lib.hid (World.ownsRow_nil _ _ _ _), Lib.hid (fun g h => by cases h), Lib.hid (Below.refl _ _)⟩
      case round =>
        obtain ⟨i, rfl, hi, hp, hq, hap, hb⟩ := hrel
        obtain ⟨wo, rfl⟩ : ∃ wo, wo = wr := ⟨_, rfl⟩
        by_cases him : i < m
        · have c0' := (hb.out.cell (World.block_lt_of_cell? w _ c0)).trans c0
          go_wp2_with fail
          go_loopw [10, 11, 12] (fun vx vy vk wi => ∃ s x y : Nat, vk = .int .i64 ((k : Int) - 1 - s) ∧ s ≤ k ∧ vx = .int .u8 x ∧ vy = .int .u8 y ∧ x < 256 ∧ y < 256 ∧ Hid (x = horX k (colP ss i) s) ∧ Hid (y = horR k (colP ss i) s) ∧ ∃ q, wi = wo.drewN q) (fun _ _ vk _ => (intOf vk + 1).toNat)
          case atStart => exact ⟨0, 0, 0, by simp, by omega, rfl, rfl, by omega, by omega, Lib.hid rfl, Lib.hid rfl, 0, rfl⟩
          case round =>
            obtain ⟨s, x, y, rfl, hs, rfl, rfl, hxb, hyb, hx, hy, q, rfl⟩ := hrel
            by_cases hsk : s < k
            · obtain ⟨t, ht⟩ : ∃ t : Nat, k - 1 - s = t := ⟨_, rfl⟩
              have e3 : (k : Int) - 1 - s = (t : Int) := by omega
              have htk : t < k := by omega
              have e4 : (t : Int) - 1 = (k : Int) - 1 - ((s + 1 : Nat) : Int) := by omega
              have ew : IntKind.i64.wrap ((t : Int) - 1) = (t : Int) - 1 := IntWalk.i64_in _ (by omega)
              obtain ⟨b1, o1, ha, c1⟩ := hR.out t _ (str_at (by have := HR1.out; omega))
              cases ha
              replace c1 := (hb.out.cell (World.block_lt_of_cell? w _ c1)).trans c1
              have hz := HR5.out t htk
              obtain ⟨S, hS⟩ : ∃ S, sAt ss t = S := ⟨_, rfl⟩
              rw [hS] at c1 hz
              have his : i < S.size := by omega
              have hbs := byteS_get S i his
              obtain ⟨c, hc⟩ : ∃ c, byteS S i = c := ⟨_, rfl⟩
              have hcb : c < 256 := by rw [← hc]; exact byteS_lt _ _
              have hcol : colP ss i t = c := by unfold colP; rw [hS, hc]
              have f1 : bits .xor .u8 (x : Int) (S[i].toNat : Int) = ((x ^^^ c : Nat) : Int) := by rw [hbs, hc]; exact u8_xor_nat x c hxb hcb
              have f2 : bits .xor .u8 ((gmul y 2 : Nat) : Int) (S[i].toNat : Int) = ((gmul y 2 ^^^ c : Nat) : Int) := by rw [hbs, hc]; exact u8_xor_nat _ c (gmul_lt hyb) hcb
              have hx2 : Hid (x ^^^ c = horX k (colP ss i) (s + 1)) := Lib.hid (by simp only [horX]; rw [← hx.out, ht, hcol])
              have hy2 : Hid (gmul y 2 ^^^ c = horR k (colP ss i) (s + 1)) := Lib.hid (by simp only [horR]; rw [← hy.out, ht, hcol])
              have CT := Lib.hid (fun X => (show Calls Try.prog 58 #[.int .u8 y, .int .u8 2] X fun e w' => e = .returned (.int .u8 (gmul y 2 : Nat)) ∧ ∃ n, w' = X.drewN n from ref_Times y 2 X hyb (by omega)))
              obtain ⟨x2, hx3⟩ : ∃ z, x ^^^ c = z := ⟨_, rfl⟩
              have hx2b : x2 < 256 := by rw [← hx3]; exact xor_lt256 hxb hcb
              obtain ⟨G, hG⟩ : ∃ G, gmul y 2 = G := ⟨_, rfl⟩
              have hGb : G < 256 := by rw [← hG]; exact gmul_lt hyb
              rw [hG] at f2 hy2 CT
              obtain ⟨y2, hy3⟩ : ∃ z, G ^^^ c = z := ⟨_, rfl⟩
              have hy2b : y2 < 256 := by rw [← hy3]; exact xor_lt256 hGb hcb
              rw [hx3] at f1 hx2
              rw [hy3] at f2 hy2
              have E4 := Lib.hid e4
              rw [e3]
              clear hx3 hy3 hG hc hcol hbs hS ht e3 e4
              have i0 : (0 : Int) ≤ (t : Int) := by omega
              have i1 : (t : Int) < (k : Int) := by omega
              have i2 : (0 : Int) ≤ (i : Int) := by omega
              have i3 : (i : Int) < (S.size : Int) := by omega
              go_wp2_with fail
              go_quiet ((go_at_call 58; (first | (with_reducible exact quiet_on (fun W' => CT.out W')) | (with_reducible exact quiet_at (fun W' => CT.out W')) | exact CT.out _)))
              go_wp2_with fail
              go_roundw
              case rel => exact ⟨s + 1, x2, y2, by rw [E4.out], by omega, rfl, rfl, hx2b, hy2b, hx2, hy2, by first | exact ⟨_, rfl⟩ | exact dr2 _ _ _⟩
              case measure => simp [intOf] <;> omega
            · obtain rfl : s = k := by omega
              have e3 : (s : Int) - 1 - s = -1 := by omega
              rw [e3]
              have HX : Hid (x = xorN s (colP ss i)) := Lib.hid (by rw [hx.out, horX_all])
              have HY : Hid (y = xorN s (wtd (colP ss i))) := Lib.hid (by rw [hy.out, horR_all fun j _ => colP_lt _ _ _])
              have hp2 := Lib.hid (own_below hp.out (below_dr _ _ q))
              have hq2 := Lib.hid (own_below hq.out (below_dr _ _ q))
              have hb2 := Lib.hid (below_drewN hb.out q)
              clear hx hy hp hq e3
              go_wp2_with (first
                | (at_builtin; refine app_one2 rfl (.tmp 69) (.tmp 71) 101 rfl w.heap.size 5 _ 1 1 Try.underlying101 u8InfoP _ i _ rfl hp2.out [.int .u8 (x : Int)] rfl rfl (by intro u hu; simp at hu; subst hu; rfl) (by unfold maxLen; omega) (by omega) hb2.out.size ?_; intro v1 w1 hl1 hg1 hb1 hk1; have hh1 := Lib.hid (kept_apart hq2.out hg1 hap.out); have hl1' := Lib.hid hl1; have hk1' := Lib.hid hk1; have hb1' := Lib.hid (hb2.out.trans hb1); clear hl1 hg1 hk1 hb1)
                | (at_builtin; go_must (refine app_one2 rfl (.tmp 73) (.tmp 75) 101 rfl w.heap.size 5 _ 1 1 Try.underlying101 u8InfoP _ i _ (by rfl) hh1.out [.int .u8 (y : Int)] (by rfl) rfl (by intro u hu; simp at hu; subst hu; rfl) (by unfold maxLen; omega) (by omega) hb1'.out.size ?_); intro v2 w2 hl2 hg2 hb2' hk2)
                | fail)
              have hap1 : Apart v1 u8 := hap.out.grow hk1'.out (fun g hg => by have := (hq2.out.lt g hg).2; omega)
              have hlA : w2.ownsRow w.heap.size 5 1 v1 (i + 1) _ := kept_apart hl1'.out hg2 hap1.symm
              have hap2 : Hid (Apart v1 v2) := Lib.hid (hap1.symm.grow hk2 (fun g hg => by have := (hl1'.out.lt g hg).2; omega)).symm
              have HA : Hid (w2.ownsRow w.heap.size 5 1 v1 (i + 1) (rowB (i + 1) fun j => xorN s (colP ss j))) := Lib.hid (by rw [rowB_succ, ← HX.out]; exact hlA)
              have HB : Hid (w2.ownsRow w.heap.size 5 1 v2 (i + 1) (rowB (i + 1) fun j => xorN s (wtd (colP ss j)))) := Lib.hid (by rw [rowB_succ, ← HY.out]; exact hl2)
              have HC := Lib.hid (hb1'.out.trans hb2')
              clear hl2 hlA hg2 hb2' hk2 hap1 hl1' hk1' hb1' hh1
              go_roundw
              case rel => exact ⟨i + 1, by go_num, by omega, HA, HB, hap2, HC⟩
              case measure => simp [intOf]; omega
        · obtain rfl : i = m := by omega
          obtain ⟨a1, q1, rfl, R1, n1, _⟩ := own_reads hp.out
          obtain ⟨a2, q2, rfl, R2, n2, _⟩ := own_reads hq.out
          have k1 := conv_back i (fun j => xorN k (colP ss j)) a1 q1 wo (fun j _ => sum_lt _ _ _) (fun h => (n1 h).1) R1
          have k2 := conv_back i (fun j => xorN k (wtd (colP ss j))) a2 q2 wo.drew (fun j _ => wsum_lt _ _ _) (fun h => (n2 h).1) R2
          have k3 := conv_back i (fun j => xorN k (colP ss j)) a1 q1 wo.drew (fun j _ => sum_lt _ _ _) (fun h => (n1 h).1) R1
          have k4 := conv_back i (fun j => xorN k (wtd (colP ss j))) a2 q2 wo (fun j _ => wsum_lt _ _ _) (fun h => (n2 h).1) R2
          clear R1 R2 n1 n2 hp hq
          go_wp2_with fail
          go_region
          all_goals
            go_wp2_with fail
            go_ret3
            exact ⟨rfl, below_drew1 hb.out⟩
end Go.Proofs.Ythnbhhfbmkklmaa
