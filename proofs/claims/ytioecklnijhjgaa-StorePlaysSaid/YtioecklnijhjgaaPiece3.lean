/- The reference's SplitOf. -/
import Derived.Test.YtioecklnijhjgaaPiece2
import Derived.Test.YtioecklnijhjgaaPlM20
import Derived.Test.YtioecklnijhjgaaPlM10
import Derived.Deep.RegionLaw
set_option linter.unusedVariables false
set_option linter.unusedSimpArgs false
namespace Go.Proofs.Ytioecklnijhjgaa
open Go.RowKit

theorem bodyL_succ (T m : Nat) (f : Nat → Nat) : bodyL T (m + 1) f = bodyL T m f ++ [f m] := by simp [bodyL, List.range_succ]
theorem wide_at (s : ByteArray) (m at' j : Nat) : (Value.int .u8 ((if j * m + at' < s.size then byteS s (j * m + at') else 0 : Nat) : Int)) = .int .u8 (datP s m at' j : Nat) := rfl
def SplitOfPost (s : ByteArray) (k n : Nat) (w : World) (e : Ending) (w' : World) : Prop :=
  ∃ ao cap, e = .returned (.slice ao n cap) ∧ Reads w' ao (rowF n fun j => .string (pieceS s.size (sizeN s.size k) (pcF s k j))) ∧ Below w.heap.size w w'
set_option maxRecDepth 100000 in
set_option maxHeartbeats 8000000 in
theorem ref_SplitOf (s : ByteArray) (k n : Nat) (w : World) (hs : s.size ≤ 60) (hk : 1 ≤ k) (hkn : k ≤ n) (hn : n ≤ 10) :
    Calls Try.prog 47 #[.string s, .int .i64 k, .int .i64 n] w (SplitOfPost s k n w) := by
  obtain ⟨m, hm⟩ : ∃ m, sizeN s.size k = m := ⟨_, rfl⟩
  have hmb : m ≤ 60 := by rw [← hm]; exact Nat.le_trans (sizeN_le hk) hs
  have hmk := size_mul (T := s.size) hk
  rw [hm] at hmk
  have HM := Lib.hid hm
  have hkm : m * k ≤ 600 := Nat.mul_le_mul hmb (show k ≤ 10 by omega)
  obtain ⟨M, hMM⟩ : ∃ M, m * k = M := ⟨_, rfl⟩
  rw [hMM] at hmk hkm
  have HMM := Lib.hid hMM
  have mk1 : (m : Int) * (k : Int) = (M : Int) := by rw [← hMM]; push_cast; rfl
  have mk2 : IntKind.i64.wrap (M : Int) = (M : Int) := IntWalk.i64_in _ (by omega)
  clear hm hMM
  go_enter Try.func47, Try.ntmps47
  go_wp2_with fail
  go_loop [7] (fun vz => ∃ z : Nat, vz = .int .i64 z ∧ z ≤ m) (fun vz => m - (intOf vz).toNat)
  case atStart => exact ⟨0, rfl, by omega⟩
  case round =>
    obtain ⟨z, rfl, hz⟩ := hrel
    have hiff := size_iff (T := s.size) (z := z) hk
    rw [HM.out] at hiff
    have hzk : z * k ≤ 600 := Nat.mul_le_mul (show z ≤ 60 by omega) (show k ≤ 10 by omega)
    obtain ⟨q, hq⟩ : ∃ q, z * k = q := ⟨_, rfl⟩
    rw [hq] at hiff hzk
    have q1 : (z : Int) * (k : Int) = (q : Int) := by rw [← hq]; push_cast; rfl
    have q2 : IntKind.i64.wrap (q : Int) = (q : Int) := IntWalk.i64_in _ (by omega)
    have HQ := Lib.hid hq
    clear hq
    by_cases hzm : z < m
    · have t1 : decide ((q : Int) < (s.size : Int)) = true := by simp; exact hiff.1 hzm
      have t1' : q < s.size := hiff.1 hzm
      have HIF := Lib.hid hiff
      clear hiff
      go_wp2_with fail
      go_round
      case rel => exact ⟨z + 1, by go_num, by omega⟩
      case measure => simp [intOf]; omega
    · have t1 : decide ((q : Int) < (s.size : Int)) = false := by
        have : ¬ q < s.size := fun h => hzm (hiff.2 h)
        simp; omega
      obtain rfl : z = m := by omega
      have BS := run_bytes_of_string (P := Try.prog) w 9 73 5 s Try.underlying9 Try.underlying73 Try.underlying5
      have gc1 := grownCap_ge w s.size 0 5
      have gc2 := grownCap_le_maxLen w s.size 0 5 (by unfold maxLen; omega)
      obtain ⟨gc, hgc⟩ : ∃ gc, grownCap w s.size 0 5 = gc := ⟨_, rfl⟩
      rw [hgc] at BS gc1 gc2
      obtain ⟨gb, hgb⟩ : ∃ gb, w.heap.size = gb := ⟨_, rfl⟩
      have RC : RowK (w.drew.alloc (.cells (bytesRow s gc) 5 ((bytesRow s gc).size, (bytesRow s gc).size + 1))) gb gb s.size gc (fun j => .int .u8 ((if j < s.size then byteS s j else 0 : Nat) : Int)) := by
        rw [← hgb]
        exact (rowK_of_string w.drew s gc w.heap.size gc1 gc2 (Nat.le_refl _)).congr fun j hj => by rw [if_pos hj]
      have B7 : Below w.heap.size w (w.drew.alloc (.cells (bytesRow s gc) 5 ((bytesRow s gc).size, (bytesRow s gc).size + 1))) := (below_dr _ _ 1).alloc (Nat.le_refl _) _
      obtain ⟨W7, hW7⟩ : ∃ W7, w.drew.alloc (.cells (bytesRow s gc) 5 ((bytesRow s gc).size, (bytesRow s gc).size + 1)) = W7 := ⟨_, rfl⟩
      rw [hW7] at BS RC B7
      rw [hgb] at BS
      have HRC := Lib.hid RC
      have HB7 := Lib.hid B7
      have HGB := Lib.hid hgb
      clear RC B7 hW7 hgc hgb hiff q1 q2
      go_wp2_with fail
      clear BS
      go_loopw [8] (fun v8 wr => ∃ z b cap : Nat, v8 = .slice (some ⟨b, 0, none⟩) z cap ∧ z ≤ M ∧ Hid (RowK wr gb b z cap (fun j => .int .u8 ((if j < s.size then byteS s j else 0 : Nat) : Int))) ∧ s.size ≤ z ∧ Hid (Below w.heap.size w wr)) (fun v8 _ => M - (match v8 with | .slice _ z _ => z | _ => 0))
      case atStart => exact ⟨s.size, gb, gc, rfl, hmk, HRC, Nat.le_refl _, HB7⟩
      case round =>
        clear HRC HB7
        obtain ⟨y, b, cap, rfl, hy, HK, hsy, HB⟩ := hrel
        obtain ⟨wo, rfl⟩ : ∃ wo, wo = wr := ⟨_, rfl⟩
        by_cases hyM : y < M
        · have t2 : decide ((y : Int) < (M : Int)) = true := by simp; omega
          have hz0 : Hid ((fun j => Value.int .u8 ((if j < s.size then byteS s j else 0 : Nat) : Int)) y = .int .u8 0) := Lib.hid (by show Value.int .u8 ((if y < s.size then byteS s y else 0 : Nat) : Int) = _; rw [if_neg (by omega)]; rfl)
          go_wp2_with (first
            | (at_builtin; go_must (refine app_rowK rfl (.tmp 33) (.tmp 34) 73 rfl Try.underlying73 u8InfoP gb b y cap _ (by rfl) HK.out (.int .u8 0) (by rfl) rfl hz0.out (by omega) (by have := HK.out.2.1; have := HK.out.1; omega) ?_); intro b5 c5 w5 hk5 hb5; have HK5 := Lib.hid hk5; have HB5 := Lib.hid (HB.out.trans (by rw [HGB.out]; exact hb5)); clear hk5 hb5)
            | fail)
          go_roundw
          case rel => exact ⟨y + 1, b5, c5, rfl, by omega, HK5, by omega, HB5⟩
          case measure => simp; omega
        · obtain rfl : y = M := by omega
          have t2 : decide ((y : Int) < (y : Int)) = false := by simp
          obtain ⟨bw, hbw⟩ : ∃ bw, wo.heap.size = bw := ⟨_, rfl⟩
          have HBW := Lib.hid hbw
          clear hbw
          go_wp2_with fail
          go_loopw [9, 37] (fun v9 vj wr => ∃ j : Nat, vj = .int .i64 j ∧ j ≤ k ∧ Hid (wr.ownsRow bw 5 1 v9 j (rowF j (gfV gf))) ∧ Hid (Below bw wo wr)) (fun _ vj _ => k - (intOf vj).toNat)
          case atStart => exact ⟨0, rfl, by omega, Lib.hid (World.ownsRow_nil _ _ _ _), Lib.hid (Below.refl _ _)⟩
          case round =>
            obtain ⟨j, rfl, hj, hX, hBx⟩ := hrel
            obtain ⟨wx, rfl⟩ : ∃ wx, wx = wr := ⟨_, rfl⟩
            have hbase : Hid (bw ≤ wx.heap.size) := Lib.hid (by rw [← HBW.out]; exact hBx.out.size)
            by_cases hjk : j < k
            · have wj := wrap_u8' j (by omega)
              go_wp2_with (first
                | (at_builtin; go_must (refine app_one2 rfl (.tmp 40) (.tmp 43) 73 rfl bw 5 _ 1 1 Try.underlying73 u8InfoP _ j _ (by rfl) hX.out [.int .u8 (j : Int)] (by rfl) rfl (by intro u hu; simp at hu; subst hu; rfl) (by unfold maxLen; omega) (by omega) hbase.out ?_); intro v5 w5 hown5 hgr5 hb5 hat5; have HX5 : Hid (w5.ownsRow bw 5 1 v5 (j + 1) (rowF (j + 1) (gfV gf))) := Lib.hid (by rw [rowF_succ]; unfold gfV; rw [gf_val (by omega)]; exact hown5); have HB5 := Lib.hid (hBx.out.trans hb5); clear hown5 hgr5 hb5 hat5)
                | fail)
              go_roundw
              case rel => exact ⟨j + 1, by go_num, by omega, HX5, HB5⟩
              case measure => simp [intOf]; omega
            · obtain rfl : j = k := by omega
              obtain ⟨ax, cx, rfl, hRx, _, _⟩ := own_reads hX.out
              have HRX := Lib.hid hRx
              have HKX : Hid (RowK wx gb b y cap (fun j => .int .u8 ((if j < s.size then byteS s j else 0 : Nat) : Int))) := Lib.hid (HK.out.below (by rw [HBW.out]; exact hBx.out))
              have HBX : Hid (Below w.heap.size w wx) := Lib.hid (HB.out.trans (hBx.out.mono (by rw [← HBW.out]; exact HB.out.size)))
              obtain ⟨bx, hbx⟩ : ∃ bx, wx.heap.size = bx := ⟨_, rfl⟩
              have HBXS := Lib.hid hbx
              have wT := wrap_u8' s.size (by omega)
              clear hRx hX hBx HK HB hbase hbx
              go_wp2_with fail
              go_loopw [11, 47] (fun vo vi wr => ∃ i : Nat, vi = .int .i64 i ∧ i ≤ n ∧ Hid (wr.ownsRow bx 9 1 vo i (rowF i fun r => .string (pieceS s.size z (pcF s j r)))) ∧ Hid (Below bx wx wr)) (fun _ vi _ => n - (intOf vi).toNat)
              case atStart => exact ⟨0, rfl, by omega, Lib.hid (World.ownsRow_nil _ _ _ _), Lib.hid (Below.refl _ _)⟩
              case round =>
                obtain ⟨i, rfl, hi, hO, hBi⟩ := hrel
                obtain ⟨wi, rfl⟩ : ∃ wi, wi = wr := ⟨_, rfl⟩
                obtain ⟨vo, rfl⟩ : ∃ vo, vo = u11 := ⟨_, rfl⟩
                have hBi' : Hid (Below wx.heap.size wx wi) := Lib.hid (by rw [HBXS.out]; exact hBi.out)
                by_cases hin : i < n
                · obtain ⟨bi, hbi⟩ : ∃ bi, wi.heap.size = bi := ⟨_, rfl⟩
                  have HBI := Lib.hid hbi
                  have HBo : Hid (Below bi wi (wi.alloc (.cells #[.int .u8 (s.size : Nat)] 5))) := Lib.hid (by rw [← hbi]; exact (Below.refl _ _).alloc (Nat.le_refl _) _)
                  have HBody : Hid ((wi.alloc (.cells #[.int .u8 (s.size : Nat)] 5)).ownsRow bi 5 1 (.slice (some ⟨bi, 0, none⟩) 1 1) (0 + 1) ((bodyL s.size 0 (pcF s j i)).map fun c => .int .u8 (c : Nat))) := Lib.hid (by rw [← hbi]; exact own_lit wi wi.heap.size 5 [.int .u8 (s.size : Nat)] (Nat.le_refl _) (by unfold maxLen; simp))
                  go_wp2_with fail
                  try rw [hbi]
                  clear hbi
                  go_loopw [13, 55] (fun vb va wr => ∃ a : Nat, va = .int .i64 a ∧ a ≤ z ∧ Hid (wr.ownsRow bi 5 1 vb (a + 1) ((bodyL s.size a (pcF s j i)).map fun c => .int .u8 (c : Nat))) ∧ Hid (Below bi wi wr)) (fun _ va _ => z - (intOf va).toNat)
                  case atStart => exact ⟨0, rfl, by omega, HBody, HBo⟩
                  case round =>
                    clear HBody HBo
                    obtain ⟨a, rfl, ha, hBody, hBa⟩ := hrel
                    obtain ⟨wa, rfl⟩ : ∃ wa, wa = wr := ⟨_, rfl⟩
                    obtain ⟨vb, rfl⟩ : ∃ vb, vb = u13 := ⟨_, rfl⟩
                    have hBa' : Hid (Below wi.heap.size wi wa) := Lib.hid (by rw [HBI.out]; exact hBa.out)
                    have HXA : Hid (Below wx.heap.size wx wa) := Lib.hid (hBi'.out.trans (hBa'.out.mono hBi'.out.size))
                    by_cases haz : a < z
                    · obtain ⟨bj, hbj⟩ : ∃ bj, wa.heap.size = bj := ⟨_, rfl⟩
                      have HBJ := Lib.hid hbj
                      clear hbj
                      go_wp2_with fail
                      go_loopw [15, 59] (fun vy vt wr => ∃ t : Nat, vt = .int .i64 t ∧ t ≤ j ∧ Hid (wr.ownsRow bj 5 1 vy t (rowB t (datP s z a))) ∧ Hid (Below bj wa wr)) (fun _ vt _ => j - (intOf vt).toNat)
                      case atStart => exact ⟨0, rfl, by omega, Lib.hid (World.ownsRow_nil _ _ _ _), Lib.hid (Below.refl _ _)⟩
                      case round =>
                        obtain ⟨t, rfl, ht, hY, hBt⟩ := hrel
                        obtain ⟨wt, rfl⟩ : ∃ wt, wt = wr := ⟨_, rfl⟩
                        have hBt' : Hid (Below wa.heap.size wa wt) := Lib.hid (by rw [HBJ.out]; exact hBt.out)
                        have HXT : Hid (Below wx.heap.size wx wt) := Lib.hid (HXA.out.trans (hBt'.out.mono HXA.out.size))
                        by_cases htj : t < j
                        · have htz : t * z + a < y := by
                            have h1 : (t + 1) * z ≤ j * z := Nat.mul_le_mul_right z (by omega)
                            rw [Nat.succ_mul] at h1
                            have h2 := HMM.out
                            rw [Nat.mul_comm] at h2
                            omega
                          obtain ⟨q1, hq1⟩ : ∃ q, t * z = q := ⟨_, rfl⟩
                          obtain ⟨q2, hq2⟩ : ∃ q, q1 + a = q := ⟨_, rfl⟩
                          rw [hq1, hq2] at htz
                          have e1 : (t : Int) * (z : Int) = (q1 : Int) := by rw [← hq1]; push_cast; rfl
                          have e2 : (q1 : Int) + (a : Int) = (q2 : Int) := by omega
                          have e3 : IntKind.i64.wrap (q1 : Int) = (q1 : Int) := IntWalk.i64_in _ (by omega)
                          have e4 : IntKind.i64.wrap (q2 : Int) = (q2 : Int) := IntWalk.i64_in _ (by omega)
                          have cw : wt.cell? ⟨b, q2, none⟩ = some (.int .u8 (datP s z a t : Nat)) := by
                            have := (HKX.out.below HXT.out).2.2.2.2.1 q2 htz
                            rw [this]
                            unfold datP
                            rw [hq1, hq2]
                          obtain ⟨c, hc⟩ : ∃ c, datP s z a t = c := ⟨_, rfl⟩
                          rw [hc] at cw
                          have HC := Lib.hid hc
                          have hbase : Hid (bj ≤ wt.heap.size) := Lib.hid (by rw [← HBJ.out]; exact hBt'.out.size)
                          clear hq1 hq2 hc
                          go_wp2_with (first
                            | (at_builtin; go_must (refine app_one2 rfl (.tmp 62) (.tmp 71) 73 rfl bj 5 _ 1 1 Try.underlying73 u8InfoP _ t _ (by rfl) hY.out [.int .u8 (c : Int)] (by rfl) rfl (by intro u hu; simp at hu; subst hu; rfl) (by unfold maxLen; omega) (by omega) hbase.out ?_); intro v5 w5 hown5 hgr5 hb5 hat5; have HX5 : Hid (w5.ownsRow bj 5 1 v5 (t + 1) (rowB (t + 1) (datP s z a))) := Lib.hid (by rw [rowB_succ, HC.out]; exact hown5); have HB5 := Lib.hid (hBt.out.trans hb5); clear hown5 hgr5 hb5 hat5)
                            | fail)
                          go_roundw
                          case rel => exact ⟨t + 1, by go_num, by omega, HX5, HB5⟩
                          case measure => simp [intOf]; omega
                        · obtain rfl : t = j := by omega
                          obtain ⟨ay, cy, rfl, hRy, _, _⟩ := own_reads hY.out
                          have CR := Lib.hid (ref_RowOf gf (ysP s z a) t (i + 1) ax ay cx cy wt hk (by omega) (by omega) (Lib.hid (fun p q hp hq hne he => hne (by
                            have := congrArg GF.val he
                            rwa [gf_val (by omega), gf_val (by omega)] at this))) (Lib.hid (HRX.out.below HXT.out)) (Lib.hid (by rw [← dat_row]; exact hRy)))
                          unfold RowOfPost at CR
                          have ei : IntKind.i64.wrap ((i : Int) + 1) = (i : Int) + 1 := IntWalk.i64_in _ (by omega)
                          rw [show ((i + 1 : Nat) : Int) = (i : Int) + 1 from by push_cast; rfl] at CR
                          have hbody2 := Lib.hid (own_below hBody.out hBt'.out)
                          have HBI2 : Hid (Below bi wi wt) := Lib.hid (hBa.out.trans (hBt'.out.mono (by rw [← HBI.out]; exact hBa'.out.size)))
                          clear hRy hY hBt
                          go_wp2_with fail
                          (with_reducible refine CR.out.mono ?_)
                          rintro e w6 ⟨v6, rfl, hO6, hb6⟩
                          obtain ⟨g6, c6, rfl⟩ := own_form hO6 (fun h => by have := congrArg List.length h; rw [rowF_length] at this; simp at this)
                          have cz : w6.cell? ⟨g6, i, none⟩ = some (.int .u8 (pcF s t i a : Nat)) := by
                            have h1 : Own w6 wt.heap.size 5 g6 (i + 1) c6 (gfV fun j => lag gf (ysP s z a) t (gf j)) := hO6
                            rw [h1.cell (show i < i + 1 by omega)]
                            unfold gfV pcF
                            rw [HM.out]
                          obtain ⟨c, hc⟩ : ∃ c, pcF s t i a = c := ⟨_, rfl⟩
                          rw [hc] at cz
                          have HC := Lib.hid hc
                          have hbody3 := Lib.hid (own_below hbody2.out hb6)
                          have HBI3 : Hid (Below bi wi w6) := Lib.hid (HBI2.out.trans (hb6.mono (by rw [← HBI.out]; have := hBa'.out.size; have := hBt'.out.size; omega)))
                          have hbase : Hid (bi ≤ w6.heap.size) := Lib.hid (by rw [← HBI.out]; exact HBI3.out.size)
                          have i0 : (0 : Int) ≤ (i : Int) := by omega
                          have i1 : (i : Int) < (i : Int) + 1 := by omega
                          clear hc hO6 hb6 CR hbody2 HBI2
                          go_wp2_with (first
                            | (at_builtin; go_must (refine app_one2 rfl (.tmp 74) (.tmp 83) 73 rfl bi 5 _ 1 1 Try.underlying73 u8InfoP _ (a + 1) _ (by rfl) hbody3.out [.int .u8 (c : Int)] (by rfl) rfl (by intro u hu; simp at hu; subst hu; rfl) (by unfold maxLen; omega) (by omega) hbase.out ?_); intro v7 w7 hown7 hgr7 hb7 hat7; have HX7 : Hid (w7.ownsRow bi 5 1 v7 (a + 1 + 1) ((bodyL s.size (a + 1) (pcF s t i)).map fun c => .int .u8 (c : Nat))) := Lib.hid (by rw [bodyL_succ, List.map_append, HC.out]; exact hown7); have HB7 := Lib.hid (HBI3.out.trans hb7); clear hown7 hgr7 hb7 hat7)
                            | fail)
                          go_roundw
                          case rel => exact ⟨a + 1, by go_num, by omega, HX7, HB7⟩
                          case measure => simp [intOf]; omega
                    · obtain rfl : a = z := by omega
                      obtain ⟨gv, cv, rfl⟩ := own_form hBody.out (by simp [bodyL])
                      have hlt : Hid (∀ c ∈ bodyL s.size a (pcF s j i), c < 256) := Lib.hid (by
                        intro c hc
                        simp only [bodyL, List.mem_cons, List.mem_map, List.mem_range] at hc
                        rcases hc with rfl | ⟨j, hj, rfl⟩
                        · omega
                        · exact pcF_lt _ _ _ _)
                      have KC : Hid (∀ W, Reads W (some ⟨gv, 0, none⟩) ((bodyL s.size a (pcF s j i)).map fun c => .int .u8 (c : Nat)) → (convert 73 9 (.slice (some ⟨gv, 0, none⟩) (a + 1) cv)).run Try.prog W = .ok (.string (strOf (bodyL s.size a (pcF s j i)))) W) := Lib.hid (fun W h => by
                        have := conv_list (bodyL s.size a (pcF s j i)) (some ⟨gv, 0, none⟩) cv W hlt.out (fun h => by cases h) h
                        rwa [bodyL_len] at this)
                      have hRb := Lib.hid (own_reads' hBody.out)
                      obtain ⟨B, hB⟩ : ∃ B, strOf (bodyL s.size a (pcF s j i)) = B := ⟨_, rfl⟩
                      rw [hB] at KC
                      have hBs : B.size = a + 1 := by rw [← hB, strOf_size, bodyL_len]
                      have CSum := Lib.hid (fun W => ref_SumOf B W (by omega))
                      obtain ⟨cr, hcr⟩ : ∃ c, crcN B = c := ⟨_, rfl⟩
                      have hcrb : cr < 4294967296 := by rw [← hcr]; exact crcN_lt B
                      rw [hcr] at CSum
                      have CF := Lib.hid (fun W => ref_Four cr W hcrb)
                      obtain ⟨FS, hFS⟩ : ∃ S, strOf (fourL cr) = S := ⟨_, rfl⟩
                      rw [hFS] at CF
                      have hfs : FS.size = 4 := by rw [← hFS, strOf_size]; rfl
                      have hsum : ¬ (9223372036854775807 < a + 1 + 4) := by omega
                      have hres : Hid (pieceS s.size a (pcF s j i) = B ++ FS) := Lib.hid (by unfold pieceS; rw [hB, hcr, hFS])
                      have k0 := KC.out wa hRb.out
                      have k1 := KC.out wa.drew hRb.out
                      have hO2 := Lib.hid (own_below hO.out hBa'.out)
                      have HBX2 : Hid (Below bx wx wa) := Lib.hid (by rw [← HBXS.out]; exact HXA.out)
                      have hm1 : Hid (i + 1 ≤ maxLen) := Lib.hid (by unfold maxLen; omega)
                      have hm2 : Hid ((i + 1) * 16 ≤ 140737488355328) := Lib.hid (by omega)
                      clear hB hcr hFS hBody
                      go_wp2_with fail
                      go_region_law (first
                        | (go_simp; go_at_call 65; (with_reducible refine (CSum.out _).mono ?_); rintro e w5 ⟨rfl, hb5⟩; have hb5' : Below wa.heap.size wa w5 := (below_drew1 (Below.refl _ wa)).trans hb5; have k5 := KC.out w5 (hRb.out.below hb5'))
                        | (go_simp; go_at_call 64; (with_reducible refine (CF.out _).mono ?_); rintro e w6 ⟨rfl, hb6⟩; have hb6' : Below wa.heap.size wa w6 := hb5'.trans (hb6.mono hb5'.size); have k6 := KC.out w6 (hRb.out.below hb6'); have HO6 := Lib.hid (own_below hO2.out hb6'); have HB6 := Lib.hid (HBX2.out.trans (hb6'.mono (by rw [← HBXS.out]; exact HXA.out.size))))
                        | (refine step_app_one ?_ (.tmp 86) (.tmp 94) 86 ?_ bx 9 _ 1 16 Try.underlying86 strInfoP vo i _ ?_ w6 HO6.out wx HB6.out (by rw [HBXS.out]; exact Nat.le_refl _) ?_ ?_ #[.string (B ++ FS)] ?_ ?_ rfl ?_ hm1.out hm2.out ?_; (focus rfl); (focus rfl); (focus rfl); (focus (repeat (first | (with_reducible exact Below.refl _ _) | (with_reducible apply below_drew1) | (with_reducible apply below_drewN) | (with_reducible refine Below.alloc ?_ (by simp; try omega) _) | fail))); rotate_left; (focus rfl); (focus (repeat (first | (with_reducible exact heap_new' _ _ _ (by simp; try omega)) | (with_reducible apply heap_drew) | (with_reducible apply heap_drewN) | (with_reducible apply heap_alloc_old) | fail))); (focus (intro u hu; simp at hu; subst hu; rfl)); intro v8 w8 hown8 hb8)
                        | fail)
                      all_goals
                        have HX8 : Hid (w8.ownsRow bx 9 1 v8 (i + 1) (rowF (i + 1) fun r => .string (pieceS s.size a (pcF s j r)))) := Lib.hid (by rw [rowF_succ, hres.out]; exact hown8)
                        have HB8 := Lib.hid hb8
                        clear hown8 hb8
                        go_wp2_with fail
                        go_roundw
                        case rel => exact ⟨i + 1, by go_num, by omega, HX8, HB8⟩
                        case measure => simp [intOf]; omega
                · obtain rfl : i = n := by omega
                  obtain ⟨ao, co, rfl, hRo, _, _⟩ := own_reads hO.out
                  go_wp2_with fail
                  go_ret
                  exact ⟨ao, co, rfl, by rw [HM.out]; exact hRo, HBX.out.trans (hBi'.out.mono HBX.out.size)⟩
end Go.Proofs.Ytioecklnijhjgaa
