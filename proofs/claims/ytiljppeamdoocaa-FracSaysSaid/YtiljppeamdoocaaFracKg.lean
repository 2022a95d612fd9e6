/- FracSays: the walk where the fraction is right. (Printed by wip/tools/gen_frac.py.) -/
import Derived.Test.YtiljppeamdoocaaFracK0
namespace Go.Proofs.Ytiljppeamdoocaa
open Go.RowKit

set_option maxRecDepth 100000 in
set_option maxHeartbeats 4000000 in
theorem fracSays_good (P Q : Nat) (ao : Option Addr) (len cap : Nat) (zs : List Int) (w : World) (hl : zs.length = len) (h63 : len ≤ 9223372036854775807) (hR : Reads w ao (zs.map (Value.int .i64))) (hQ1 : 1 ≤ Q) (hQ2 : Q ≤ 1000000) (hP : P ≤ 1000000) :
    Calls Try.prog 3 #[.agg #[.int .i64 P, .int .i64 Q], .slice ao len cap] w fun e w' => e = .returned (.bool true) ∧ Below w.heap.size w w' := by
  have HL := Lib.hid hl
  have HR := Lib.hid hR
  have hb := Lib.hid (below_alloc' w (.cells #[.int .i64 P, .int .i64 Q] 23))
  have d1 : decide ((Q : Int) < 1) = false := by simp; omega
  have d2 : decide ((1000000 : Int) < Q) = false := by simp; omega
  have d3 : decide ((P : Int) < 0) = false := by simp
  have d4 : decide ((1000000 : Int) < P) = false := by simp; omega
  clear hl hR
  go_enter Try.func3, Try.ntmps3
  go_wp2_with (go_at_call 12; refine (frac_Of P Q _ hQ1 hQ2 hP).mono ?_; rintro e w1 ⟨v, rfl, ⟨mo, rfl, hm1⟩, hb1⟩)
  have hx1 : w1.heap[w.heap.size]? = some (.cells #[.int .i64 P, .int .i64 Q] 23 (0, 0)) := by
    rw [hb1.block _ (by simp)]
    exact heap_alloc_new w _
  have hbl1 := hb.out.trans (hb1.mono hb.out.size)
  have HR1 := Lib.hid (HR.out.below hbl1)
  have HM1 := Lib.hid hm1
  have hsz1 := (Array.getElem?_eq_some_iff.1 hx1).1
  clear hm1
  go_wp2_with (go_at_call 13; refine (value_all zs len ao cap _ HL.out h63 HR1).mono ?_; rintro e w2 ⟨p, q, c, hvs, rfl, hb2⟩; obtain ⟨hx2, c1, c2⟩ := frac_cells hx1 hb2 (.cells #[.int .i64 p, .int .i64 q] 23))
  have hbl2 := hbl1.trans (hb2.mono hbl1.size)
  have HVS := Lib.hid hvs
  have hsz2 : w.heap.size < w2.heap.size := Nat.lt_of_lt_of_le hsz1 hb2.size
  have HBel0 := Lib.hid (hbl2.trans ((Below.refl _ w2).alloc (Nat.le_of_lt hsz2) (.cells #[.int .i64 p, .int .i64 q] 23)))
  have HLs0 := Lib.hid ((HR1.out.below hb2).alloc (.cells #[.int .i64 p, .int .i64 q] 23))
  have HM0 := Lib.hid ((HM1.out.below hb2).alloc (.cells #[.int .i64 p, .int .i64 q] 23))
  have HX70 := Lib.hid (heap_alloc_new w2 (.cells #[.int .i64 p, .int .i64 q] 23))
  clear hx2 hb2 hbl2 hb1 hx1 hbl1 HR1 HM1 hsz1 hvs
  generalize w2.alloc (.cells #[.int .i64 p, .int .i64 q] 23) = wd at *
  generalize w2.heap.size = B7 at *
  go_region
  go_wp2_with fail
  go_loopw [9, 10, 11] (fun vo vp vq wr => ∃ (out : List Int) (p q : Nat), vp = .int .i64 p ∧ vq = .int .i64 q ∧ Hid (CfAt P Q out p q) ∧ p ≤ 1000000 ∧ q ≤ 1000000 ∧ Hid (wr.ownsRow wd.heap.size 3 1 vo out.length (out.map (Value.int .i64))) ∧ Hid (Below wd.heap.size wd wr)) (fun _ _ vq _ => (intOf vq).toNat)
  case atStart => exact ⟨[], P, Q, rfl, rfl, CfAt.start P Q, by omega, by omega, World.ownsRow_nil _ _ _ _, below_dr _ _ 1⟩
  case round =>
    obtain ⟨out, p', q', rfl, rfl, hcf, hp, hq, hrow, hbl⟩ := hrel
    have hlen := hcf.out.len
    by_cases hq0 : 0 < q'
    · have hqz : ¬ ((q' : Int) = 0) := by omega
      have hqg : decide ((0 : Int) < q') = true := by simp; omega
      have hq1 := Nat.mod_lt p' hq0
      have hlq := low_quot p' q' hq0
      have hst := Lib.hid (hcf.out.step hq0)
      have hdp : p' / q' ≤ p' := Nat.div_le_self p' q'
      have hmp : p' % q' ≤ p' := Nat.mod_le p' q'
      obtain ⟨d, hd⟩ : ∃ d, p' / q' = d := ⟨_, rfl⟩
      obtain ⟨m, hm⟩ : ∃ m, p' % q' = m := ⟨_, rfl⟩
      have em : Int.tmod (p' : Int) (q' : Int) = (m : Int) := by rw [← hm]; rfl
      have em2 : (p' : Int) % (q' : Int) = (m : Int) := by rw [← hm]; rfl
      rw [hd] at hlq hst hdp
      rw [hm] at hlq hst hq1 hmp
      have hlq2 : ((p' : Int) - m) / q' = d := by rw [← Int.tdiv_eq_ediv_of_nonneg (by omega)]; exact hlq
      have wd1 : IntKind.i64.wrap (d : Int) = d := IntWalk.i64_in _ (by omega)
      have wm : IntKind.i64.wrap (m : Int) = m := IntWalk.i64_in _ (by omega)
      have ws : IntKind.i64.wrap ((p' : Int) - m) = (p' : Int) - m := IntWalk.i64_in _ (by omega)
      clear hd hm
      go_wp2_with (at_builtin; go_must (refine app_one rfl (.tmp 58) (.tmp 66) _ rfl wd.heap.size 3 _ 1 8 Try.underlying24 i64Row u9 out.length (out.map (Value.int .i64)) (by rfl) hrow.out [.int .i64 (d : Int)] (by rfl) rfl (by intro u hu; simp at hu; subst hu; rfl) (by unfold maxLen; omega) (by omega) hbl.out.size ?_); intro v2 w3 hown2 hgr2 hb3)
      go_region
      have HO3 : Hid ((w3.drewN 1).ownsRow wd.heap.size 3 1 v2 (out ++ [(d : Int)]).length ((out ++ [(d : Int)]).map (Value.int .i64))) := by
        show World.ownsRow _ _ _ _ _ _ _
        rw [List.length_append, List.length_singleton, List.map_append]
        exact own_below hown2 (below_dr _ _ 1)
      have HB3 : Hid (Below wd.heap.size wd (w3.drewN 1)) := below_drewN (hbl.out.trans hb3) 1
      clear hown2 hgr2 hb3
      go_wp2_with fail
      go_roundw
      case rel => exact ⟨out ++ [(d : Int)], q', m, rfl, rfl, hst, by omega, by omega, HO3, HB3⟩
      case measure => simp [intOf]; omega
    · obtain rfl : q' = 0 := by omega
      obtain ⟨oo, ocap, hv, hRo, hn2, hm2⟩ := own_reads hrow.out
      have hz := hcf.out.done
      subst hv
      have HRo := Lib.hid hRo
      have HMo : Hid (Reads wr mo ((cfF (Q + 1) P Q).map (Value.int .i64))) := HM0.out.below hbl.out
      have hll := cfF_len (Q + 1) P Q
      have HEQ : Hid (decide (cfF (Q + 1) P Q = out) = true) := by
        show _ = _
        rw [← hz]; simp
      have HBel1 := Lib.hid (HBel0.out.trans (Below.mono hbl.out HBel0.out.size))
      have HLs1 := Lib.hid (HLs0.out.below hbl.out)
      have HX71 : Hid (wr.heap[B7]? = some (.cells #[.int .i64 p, .int .i64 q] 23 (0, 0))) := by
        show _ = _
        rw [hbl.out.block _ (Array.getElem?_eq_some_iff.1 HX70.out).1]; exact HX70.out
      clear hz hRo hn2 hm2 c1 c2
      cases h0 : ((len : Int) == 0)
      all_goals
        go_wp2_with (go_at_call 14; refine (equal_int (cfF (Q + 1) P Q) out mo oo _ _ _ (by omega) (by omega) HMo HRo).mono ?_; rw [HEQ.out]; rintro e w4 ⟨rfl, n4, rfl⟩)
        have HBel := Lib.hid (below_drewN HBel1.out n4)
        have HLs := Lib.hid (HLs1.out.drew n4)
        have HX7 : Hid ((wr.drewN n4).heap[B7]? = some (.cells #[.int .i64 p, .int .i64 q] 23 (0, 0))) := HX71.out
        clear HBel1 HLs1 HX71 HMo HRo HEQ hbl hrow hcf HBel0 HLs0 HM0 HX70 hll hlen hp hq0 HR hb d1 d2 d3 d4 
        generalize wr.drewN n4 = wc at *
        go_loop [12, 13, 14, 85] (fun vw _ _ vi => ∃ (i : Nat) (c2 : Int), vi = .int .i64 i ∧ i ≤ len ∧ vw = .int .i64 c2 ∧ Hid (WantAt zs i c2)) (fun _ _ _ vi => len - (intOf vi).toNat)
        case atStart => exact ⟨0, _, rfl, by omega, rfl, (by first | exact want4 HL.out h0 | exact want0 HL.out h0)⟩
        case round =>
          obtain ⟨i, c2, rfl, hi, rfl, hw⟩ := hrel
          by_cases hil : i < len
          · obtain ⟨x, hx⟩ : ∃ x, zs[i]? = some x := ⟨zs[i]'(by rw [HL.out]; exact hil), List.getElem?_eq_getElem _⟩
            obtain ⟨b, o, rfl, cx⟩ := HLs.out i (.int .i64 x) (by rw [List.getElem?_map, hx]; rfl)
            have HX := Lib.hid hx
            clear hx
            have hne : 0 < zs.length := by rw [HL.out]; omega
            by_cases hb : fBadAt x i
            · have hw1 : Hid (WantAt zs (i + 1) 1) := .inr (.inl ⟨hne, ⟨i, x, HX.out, hb⟩, rfl⟩)
              unfold fBadAt at hb
              have hs : x < 0 ∨ (¬ x < 0 ∧ 1000000 < x) ∨ (x = 0 ∧ 0 < i) := by omega
              rcases hs with h1 | ⟨h1, h2⟩ | ⟨rfl, h3⟩
              · have d1 : decide (x < 0) = true := by simp [h1]
                clear hb hne
                go_wp2_with fail
                go_round
                case rel => exact ⟨i + 1, 1, by go_num, by omega, rfl, hw1⟩
                case measure => simp [intOf]; omega
              · have d1 : decide (x < 0) = false := by simp; omega
                have d2 : decide (1000000 < x) = true := by simp [h2]
                clear hb hne
                go_wp2_with fail
                go_round
                case rel => exact ⟨i + 1, 1, by go_num, by omega, rfl, hw1⟩
                case measure => simp [intOf]; omega
              · have d3 : decide ((0 : Int) < i) = true := by simp; omega
                clear hb hne
                go_wp2_with fail
                go_round
                case rel => exact ⟨i + 1, 1, by go_num, by omega, rfl, hw1⟩
                case measure => simp [intOf]; omega
            · have hw1 : Hid (WantAt zs (i + 1) c2) := hw.out.next HX.out hb
              unfold fBadAt at hb
              have d1 : decide (x < 0) = false := by simp; omega
              have d2 : decide (1000000 < x) = false := by simp; omega
              by_cases h0 : 0 < i
              · have d3 : decide ((0 : Int) < i) = true := by simp; omega
                have hx0 : (x == 0) = false := by simp; omega
                clear hb hne
                go_wp2_with fail
                go_round
                case rel => exact ⟨i + 1, c2, by go_num, by omega, rfl, hw1⟩
                case measure => simp [intOf]; omega
              · have d3 : decide ((0 : Int) < i) = false := by simp; omega
                clear hb hne
                go_wp2_with fail
                go_round
                case rel => exact ⟨i + 1, c2, by go_num, by omega, rfl, hw1⟩
                case measure => simp [intOf]; omega
          · have hi2 : i = len := by omega
            subst hi2
            have hw2 : WantAt zs zs.length c2 := by rw [HL.out]; exact hw.out
            have HBK := Lib.hid hw2.back
            clear hw2 hw
            go_wp2_with fail
            generalize hB15 : wc.heap.size = B15
            have HX15 : Hid ((wc.alloc (.cells #[.int .i64 1, .int .i64 0] 23)).heap[B15]? = some (.cells #[.int .i64 1, .int .i64 0] 23 (0, 0))) := by show _ = _; rw [← hB15]; exact heap_alloc_new wc _
            have HX7b : Hid ((wc.alloc (.cells #[.int .i64 1, .int .i64 0] 23)).heap[B7]? = some (.cells #[.int .i64 p, .int .i64 q] 23 (0, 0))) := heap_alloc_old wc _ HX7.out
            have HLs2 : Hid (Reads (wc.alloc (.cells #[.int .i64 1, .int .i64 0] 23)) ao (zs.map (Value.int .i64))) := HLs.out.alloc _
            have HBel2 : Hid (Below w.heap.size w (wc.alloc (.cells #[.int .i64 1, .int .i64 0] 23))) := HBel.out.trans ((Below.refl _ wc).alloc HBel.out.size _)
            have hb715 : B7 < B15 := by rw [← hB15]; exact (Array.getElem?_eq_some_iff.1 HX7.out).1
            have hls15 : ∀ a, ao = some a → 0 < i → a.block ≠ B15 := by
              intro a ha hpos
              obtain ⟨b, o, hao, hc⟩ := HLs.out 0 (.int .i64 (zs[0]?.getD 0)) (by rw [List.getElem?_map, List.getElem?_eq_getElem (by rw [HL.out]; exact hpos)]; rfl)
              rw [ha] at hao
              injection hao with hao
              have := World.block_lt_of_cell? wc _ hc
              rw [hao, ← hB15]
              simp at this ⊢
              omega
            have hm1 : IntKind.i64.wrap ((i : Int) - 1) = (i : Int) - 1 := IntWalk.i64_in _ (by omega)
            clear HX7 HLs HBel hB15
            go_loopw [12, 16] (fun vw vi wr => ∃ (k : Nat) (c3 P3 Q3 : Int), vi = .int .i64 ((i : Int) - 1 - k) ∧ k ≤ i ∧ vw = .int .i64 c3 ∧ Hid (BackAt zs k c3 P3 Q3) ∧ Hid (wr.heap[B15]? = some (.cells #[.int .i64 P3, .int .i64 Q3] 23 (0, 0))) ∧ Hid (wr.heap[B7]? = some (.cells #[.int .i64 p, .int .i64 q] 23 (0, 0))) ∧ Hid (Reads wr ao (zs.map (Value.int .i64))) ∧ Hid (Below w.heap.size w wr)) (fun _ vi _ => (intOf vi + 1).toNat)
            case atStart => exact ⟨0, c2, 1, 0, by simp, by omega, rfl, HBK, HX15, HX7b, HLs2, HBel2⟩
            case round =>
              obtain ⟨k, c3, P3, Q3, rfl, hk, rfl, hbk, hx15, hx7, hrd, hbel⟩ := hrel
              have k1 : wr.cell? ⟨B15, 0, none⟩ = some (.int .i64 P3) := cell_of_row wr _ 0 _ _ _ hx15.out
              have k2 : wr.cell? ⟨B15, 1, none⟩ = some (.int .i64 Q3) := cell_of_row wr _ 1 _ _ _ hx15.out
              have k3 : wr.cell? ⟨B7, 0, none⟩ = some (.int .i64 p) := cell_of_row wr _ 0 _ _ _ hx7.out
              have k4 : wr.cell? ⟨B7, 1, none⟩ = some (.int .i64 q) := cell_of_row wr _ 1 _ _ _ hx7.out
              by_cases hki : k < i
              · obtain ⟨j, hj⟩ : ∃ j, i - 1 - k = j := ⟨_, rfl⟩
                have hj2 : (i : Int) - 1 - k = (j : Int) := by omega
                rw [hj2]
                have j0 : (0 : Int) ≤ j := by omega
                have j1 : (j : Int) < i := by omega
                have j2 : j < i := by omega
                have hjw : IntKind.i64.wrap ((j : Int) - 1) = (j : Int) - 1 := IntWalk.i64_in _ (by omega)
                by_cases hc3 : c3 = 0
                · subst hc3
                  obtain ⟨hne, hnb, hsm, hPQ⟩ := hbk.out.zero
                  obtain ⟨n, hn⟩ : ∃ n, zs[j]?.getD 0 = n := ⟨_, rfl⟩
                  obtain ⟨b, o, hao, cx⟩ := hrd.out j (.int .i64 n) (by rw [List.getElem?_map, List.getElem?_eq_getElem (by rw [HL.out]; exact j2), Option.map_some, ← hn, List.getElem?_eq_getElem (by rw [HL.out]; exact j2)]; rfl)
                  have hbb : b ≠ B15 := hls15 _ hao (by omega)
                  have hls16 := Lib.hid hls15
                  have HR16 := hrd
                  subst hao
                  have hnbd := ok_bd hnb j
                  rw [hn] at hnbd
                  have hlast := hsm k (Nat.le_refl _)
                  have hbd := fStep_bd hlast hnbd.1 hnbd.2
                  have hnext : fVal zs (k + 1) = (n * P3 + Q3, P3) := by
                    show fStep (fVal zs k) _ = _
                    rw [← hPQ, HL.out, hj, hn]; rfl
                  rw [← hPQ] at hlast hbd
                  obtain ⟨p0, p1, q0, q1⟩ := hlast
                  dsimp only at p0 p1 q0 q1 hbd
                  obtain ⟨m, hm⟩ : ∃ m, n * P3 = m := ⟨_, rfl⟩
                  rw [hm] at hbd hnext
                  have wm : IntKind.i64.wrap m = m := IntWalk.i64_in _ (by omega)
                  have wa : IntKind.i64.wrap (m + Q3) = m + Q3 := IntWalk.i64_in _ (by omega)
                  have f1 : wr.frozen? ⟨B15, 0, none⟩ = false := by simp [World.frozen?, hx15.out]
                  have f2 : wr.frozen? ⟨B15, 1, none⟩ = false := by simp [World.frozen?, hx15.out]
                  have g1 : (((wr.setCell ⟨B15, 0, none⟩ (.int .i64 (m + Q3))).setCell ⟨B15, 1, none⟩ (.int .i64 P3)).drewN 1).heap[B15]? = some (.cells #[.int .i64 (m + Q3), .int .i64 P3] 23 (0, 0)) := by
                    show ((wr.setCell ⟨B15, 0, none⟩ (.int .i64 (m + Q3))).setCell ⟨B15, 1, none⟩ (.int .i64 P3)).heap[B15]? = _
                    rw [heap_set _ (heap_set _ hx15.out)]; rfl
                  have G1 := Lib.hid g1
                  have l1 : (((wr.setCell ⟨B15, 0, none⟩ (.int .i64 (m + Q3))).setCell ⟨B15, 1, none⟩ (.int .i64 P3)).drewN 1).cell? ⟨B15, 0, none⟩ = some (.int .i64 (m + Q3)) := cell_of_row _ _ 0 _ _ _ g1
                  have l2 : (((wr.setCell ⟨B15, 0, none⟩ (.int .i64 (m + Q3))).setCell ⟨B15, 1, none⟩ (.int .i64 P3)).drewN 1).cell? ⟨B15, 1, none⟩ = some (.int .i64 P3) := cell_of_row _ _ 1 _ _ _ g1
                  have G2 : Hid ((((wr.setCell ⟨B15, 0, none⟩ (.int .i64 (m + Q3))).setCell ⟨B15, 1, none⟩ (.int .i64 P3)).drewN 1).heap[B7]? = some (.cells #[.int .i64 p, .int .i64 q] 23 (0, 0))) := by
                    show ((wr.setCell ⟨B15, 0, none⟩ (.int .i64 (m + Q3))).setCell ⟨B15, 1, none⟩ (.int .i64 P3)).heap[B7]? = _
                    rw [heap_set_far _ (by omega), heap_set_far _ (by omega)]; exact hx7.out
                  have G3 : Hid (Reads (((wr.setCell ⟨B15, 0, none⟩ (.int .i64 (m + Q3))).setCell ⟨B15, 1, none⟩ (.int .i64 P3)).drewN 1) (some ⟨b, o, none⟩) (zs.map (Value.int .i64))) := (reads_set (reads_set HR16.out hbb) hbb).drew 1
                  have G4 : Hid (Below w.heap.size w (((wr.setCell ⟨B15, 0, none⟩ (.int .i64 (m + Q3))).setCell ⟨B15, 1, none⟩ (.int .i64 P3)).drewN 1)) := below_drewN (below_set (below_set hbel.out (by omega) _) (by omega) _) 1
                  clear hn hj2 g1
                  by_cases hbig : 1000000 < m + Q3
                  · have d7 : decide (1000000 < m + Q3) = true := by simp [hbig]
                    have HN : Hid (BackAt zs (k + 1) 2 (m + Q3) P3) := .inr (.inr (.inr ⟨hne, hnb, ⟨k + 1, by rw [HL.out]; omega, by rw [hnext]; exact .inl hbig⟩, rfl⟩))
                    have hmx : max (m + Q3) P3 = m + Q3 := by omega
                    clear hsm hPQ hnext
                    go_wp2_with fail
                    go_region
                    go_wp2_with fail
                    go_roundw
                    case rel => exact ⟨k + 1, 2, m + Q3, P3, by congr 1; omega, by omega, rfl, HN, G1, G2, G3, G4⟩
                    case measure => simp [intOf]
                  · have hsm2 : fSm (fVal zs (k + 1)) := by rw [hnext]; exact ⟨by show 0 ≤ m + Q3; omega, by show m + Q3 ≤ _; omega, p0, p1⟩
                    have HN : Hid (BackAt zs (k + 1) 0 (m + Q3) P3) := .inr (.inr (.inl ⟨hne, hnb, fun a ha => by
                      by_cases h : a ≤ k
                      · exact hsm a h
                      · obtain rfl : a = k + 1 := by omega
                        exact hsm2, hnext.symm, rfl⟩))
                    obtain ⟨mx, hmx⟩ : ∃ x, max (m + Q3) P3 = x := ⟨_, rfl⟩
                    have hmx2 : mx ≤ 1000000 := by omega
                    have d7 : decide (1000000 < mx) = false := by simp; omega
                    clear hsm hPQ hnext hsm2
                    go_wp2_with fail
                    go_region
                    go_wp2_with fail
                    go_roundw
                    case rel => exact ⟨k + 1, 0, m + Q3, P3, by congr 1; omega, by omega, rfl, HN, G1, G2, G3, G4⟩
                    case measure => simp [intOf]
                · have hc0 : (c3 == 0) = false := by simp [hc3]
                  have hc1 : (c3 != 0) = true := by simp [hc3]
                  obtain ⟨rfl, ⟨e0, e1, e2⟩ | ⟨e0, rfl, rfl⟩⟩ := hbk.out.fin (.inr hc3) HVS.out
                  · exact absurd e0 hc3
                  · clear e0 hc3 hj2
                    go_wp2_with fail
                    go_ret
                    exact ⟨by simp, hbel.out⟩
              · obtain rfl : k = i := by omega
                have hneg : ¬ (0 : Int) ≤ (k : Int) - 1 - k := by omega
                have hng : decide ((0 : Int) ≤ (k : Int) - 1 - k) = false := by simp; omega
                obtain ⟨rfl, ⟨rfl, rfl, rfl⟩ | ⟨e0, rfl, rfl⟩⟩ := hbk.out.fin (.inl (by rw [HL.out])) HVS.out
                · go_wp2_with fail
                  go_ret
                  exact ⟨rfl, hbel.out⟩
                · have hc1 : (c3 != 0) = true := by simp [e0]
                  clear e0
                  go_wp2_with fail
                  go_ret
                  exact ⟨by simp, hbel.out⟩
end Go.Proofs.Ytiljppeamdoocaa
