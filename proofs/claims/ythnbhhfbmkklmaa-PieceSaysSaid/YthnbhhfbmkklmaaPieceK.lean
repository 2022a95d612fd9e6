/- PieceSays's walk. (Printed by wip/tools/gen_piecek.py.) -/
import Derived.Test.YthnbhhfbmkklmaaPiece7
import Derived.Test.YthnbhhfbmkklmaaPiece9
import Derived.Test.YthnbhhfbmkklmaaPiece10
import Derived.Test.YthnbhhfbmkklmaaCloneS
import Derived.Test.YthnbhhfbmkklmaaSum1
import Derived.Test.YthnbhhfbmkklmaaArgs
import Derived.Test.YthnbhhfbmkklmaaFormK
namespace Go.Proofs.Ythnbhhfbmkklmaa
open Go.RowKit

def YesP (w : World) (e : Ending) (w' : World) : Prop := e = .returned (.bool true) ∧ Below w.heap.size w w'
theorem splitE_zero {s : ByteArray} {k n : Int} (h : splitE s k n = 0) : ∃ K N : Nat, k = K ∧ n = N ∧ 1 ≤ K ∧ K ≤ N ∧ N ≤ 10 ∧ s.size ≤ 60 := by
  unfold splitE at h
  cases hr : rightB k n with
  | false => rw [hr] at h; simp at h
  | true =>
    rw [hr, if_pos rfl] at h
    have h6 : s.size ≤ 60 := by
      by_cases h6 : 60 < s.size
      · rw [if_pos h6] at h; omega
      · omega
    unfold rightB at hr
    simp at hr
    exact ⟨k.toNat, n.toNat, by omega, by omega, by omega, by omega, by omega, h6⟩

set_option maxRecDepth 100000 in
set_option maxHeartbeats 8000000 in
theorem pieceSays_bad (s : ByteArray) (k n : Int) (lo : Option Addr) (ln lc : Nat) (ss : List ByteArray) (w : World) (hs : s.size ≤ 9223372036854775807) (hE : splitE s k n ≠ 0) (h : StrsIn w lo ln ss) (hcap : lo = none → ln = 0 ∧ lc = 0) (hSZ : ln * 16 ≤ 140737488351232) :
    Calls Try.prog 5 #[.string s, .int .i64 k, .int .i64 n, .slice lo ln lc] w (YesP w) := by
  have hs' := hs
  have C1 := Lib.hid (piece_Split_bad s k n w hs hE)
  unfold SplitNo at C1
  have CE := Lib.hid (fun W => ref_SplitErr s k n W hs)
  obtain ⟨E, hEE⟩ : ∃ E, splitE s k n = E := ⟨_, rfl⟩
  rw [hEE] at C1 CE hE
  have hz : ((E : Int) == 0) = false := by simp; omega
  have hz2 : ((E : Int) != 0) = true := by simp; omega
  have hz3 : ¬ (E = 0) := hE
  have hzz : ((E : Int) != (E : Int)) = false := by simp
  clear hEE hE
  have hln : ln ≤ 9223372036854775807 := h.2.1
  have H := Lib.hid h
  have C2 : Hid (∀ W, Below w.heap.size w W → Calls Try.prog 19 #[.slice lo ln lc, .int .i64 k] W (JoinPost ss ln k W)) := Lib.hid (fun W hb => piece_Join ss ln lo lc k W (h.below hb))
  have C3 : Hid (∀ W, Below w.heap.size w W → Calls Try.prog 28 #[.slice lo ln lc, .int .i64 k] W (JoinPost ss ln k W)) := Lib.hid (fun W hb => ref_JoinOf ss ln lo lc k W (h.below hb))
  unfold JoinPost at C2 C3
  have CS := Lib.hid (fun W => piece_Sum s W hs')
  have CT := Lib.hid (fun W => ref_SumOf s W hs')
  have CC : Hid (∀ W, Below w.heap.size w W → Calls Try.prog 22 #[.slice lo ln lc] W (CloneSPost W.heap.size (ss.map Value.string) ln W)) := Lib.hid (fun W hb => clone_str ln (ss.map Value.string) lo lc W.heap.size W (by omega) (by rw [List.length_map]; exact h.1) hcap (Lib.hid (h.below hb).2.2.2) (Lib.hid (by intro u hu; obtain ⟨x, _, rfl⟩ := List.mem_map.1 hu; rfl)) (Nat.le_refl _))
  unfold CloneSPost at CC
  have HL : Hid (ss.length = ln) := Lib.hid h.1
  have HZ : Hid (∀ x ∈ ss ++ [s], x.size ≤ 9223372036854775807) := Lib.hid (by
    intro x hx
    rcases List.mem_append.1 hx with hx | hx
    · exact h.2.2.1 x hx
    · rw [List.mem_singleton.1 hx]; exact hs')
  obtain ⟨xs, hxs⟩ : ∃ xs, ss ++ [s] = xs := ⟨_, rfl⟩
  have HXL : Hid (xs.length = ln + 1) := Lib.hid (by rw [← hxs, List.length_append, h.1]; rfl)
  have HXS : Hid (ss.map Value.string ++ [.string s] = xs.map Value.string) := Lib.hid (by rw [← hxs, List.map_append]; rfl)
  rw [hxs] at HZ
  obtain ⟨L1, hL1⟩ : ∃ L, ln + 1 = L := ⟨_, rfl⟩
  rw [hL1] at HXL
  have hL63 : L1 ≤ 9223372036854775807 := by omega
  have hcc : ((crcN s : Nat) : Int) = ((crcN s : Nat) : Int) := rfl
  obtain ⟨c, hc⟩ : ∃ c, crcN s = c := ⟨_, rfl⟩
  rw [hc] at CS CT
  clear h hxs hcc hc hcap
  go_enter Try.func5, Try.ntmps5
  go_wp2_with fail
  (with_reducible refine C1.out.mono ?_)
  rintro e w1 ⟨rfl, rfl⟩
  have HB1 := Lib.hid (Below.refl w1.heap.size w1)
  clear C1
  go_wp2_with fail
  (with_reducible refine (C2.out _ HB1.out).mono ?_)
  rintro e w2 ⟨S, E1, hJ, rfl, hb2⟩
  have HJ := Lib.hid hJ
  have HB2 := Lib.hid (HB1.out.trans (hb2.mono HB1.out.size))
  clear hb2 hJ C2
  go_wp2_with fail
  (with_reducible refine (CS.out _).mono ?_)
  rintro e w3 ⟨rfl, rfl⟩
  go_wp2_with fail
  (with_reducible refine (CT.out _).mono ?_)
  rintro e w4 ⟨rfl, hb4⟩
  have HB4 := Lib.hid (HB2.out.trans (hb4.mono HB2.out.size))
  clear hb4
  go_wp2_with fail
  (with_reducible refine (CC.out _ HB4.out).mono ?_)
  rintro e w5 ⟨v5, rfl, hown5, hb5⟩
  have hsz5 := hb5.size
  have HB45 := Lib.hid hb5
  obtain ⟨B5, hB5⟩ : ∃ B, w4.heap.size = B := ⟨_, rfl⟩
  rw [hB5] at hown5 hsz5
  have HO5 := Lib.hid hown5
  have HBB := Lib.hid hsz5
  have HB5 := Lib.hid hB5
  clear hb5 hown5 hB5 hsz5 CC
  go_wp2_with (first
    | (at_builtin; go_must (refine app_one2 rfl (.tmp 37) (.tmp 39) 35 rfl B5 9 _ 1 16 Try.underlying35 strInfoP v5 ln _ (by rfl) HO5.out [.string s] (by rfl) rfl (by intro u hu; simp at hu; subst hu; rfl) (by unfold maxLen; omega) (by omega) HBB.out ?_); intro v6 w6 hown6 hgr6 hb6 hat6; obtain ⟨g6, c6, rfl, hown7⟩ := own_formK hown6 (by simp) hL1; have HO6 : Hid (Reads w6 (some ⟨g6, 0, none⟩) (xs.map Value.string)) := Lib.hid (by rw [← HXS.out]; exact own_reads' hown7); have hb46 : Below w4.heap.size w4 w6 := HB45.out.trans (by rw [HB5.out]; exact hb6); have HB6 := Lib.hid (HB4.out.trans (hb46.mono HB4.out.size)); clear hb46 hown6 hat6 hgr6 hb6)
    | fail)
  go_loopw [42] (fun vi wr => ∃ i : Nat, vi = .int .i64 i ∧ i ≤ L1 ∧ Hid (Reads wr (some ⟨g6, 0, none⟩) (xs.map Value.string)) ∧ Hid (Below w1.heap.size w1 wr)) (fun vi _ => L1 - (intOf vi).toNat)
  case atStart => exact ⟨0, rfl, by omega, HO6, HB6⟩
  case round =>
    clear HO6 HB6
    obtain ⟨i, rfl, hi, HO, HB⟩ := hrel
    obtain ⟨wo, rfl⟩ : ∃ wo, wo = wr := ⟨_, rfl⟩
    by_cases hil : i < L1
    · obtain ⟨bx, ox, hra, cx⟩ := HO.out i _ (str_at (by have := HXL.out; omega))
      cases hra
      rw [Nat.zero_add] at cx
      have hxz := HZ.out _ (sAt_mem (ss := xs) (k := i) (by have := HXL.out; omega))
      obtain ⟨x, hx⟩ : ∃ x, sAt xs i = x := ⟨_, rfl⟩
      rw [hx] at cx hxz
      have CK := Lib.hid (fun W => piece_Check x k W hxz)
      have CP := Lib.hid (fun W => ref_PieceErr x k W hxz)
      unfold ErrB at CK CP
      obtain ⟨F, hF⟩ : ∃ F, pieceE x k = F := ⟨_, rfl⟩
      rw [hF] at CK CP
      have i0 : (0 : Int) ≤ (i : Int) := by omega
      have i1 : (i : Int) < (L1 : Int) := by omega
      clear hx hF
      go_wp2_with fail
      (with_reducible refine (CK.out _).mono ?_)
      rintro e w7 ⟨rfl, hb7⟩
      have HO7 := Lib.hid (HO.out.below hb7)
      have HB7 := Lib.hid (HB.out.trans (hb7.mono HB.out.size))
      clear hb7
      go_wp2_with fail
      (with_reducible refine (CP.out _).mono ?_)
      rintro e w8 ⟨rfl, hb8⟩
      have HO8 := Lib.hid (HO7.out.below hb8)
      have HB8 := Lib.hid (HB7.out.trans (hb8.mono HB7.out.size))
      clear hb8
      go_wp2_with fail
      go_roundw
      case rel => exact ⟨i + 1, by go_num, by omega, HO8, HB8⟩
      case measure => simp [intOf]; omega
    · obtain rfl : L1 = i := by omega
      go_wp2_with fail
      (with_reducible refine (CE.out _).mono ?_)
      rintro e w7 ⟨rfl, rfl⟩
      go_wp2_with fail
      have HB9 := HB
      (with_reducible refine (C3.out _ HB9.out).mono ?_)
      rintro e w8 ⟨S8, E8, hJ8, rfl, hb8⟩
      obtain ⟨rfl, rfl⟩ := HJ.out.uniq hJ8
      have HB8 := Lib.hid (HB9.out.trans (hb8.mono HB9.out.size))
      have ee : ((E1 : Int) == (E1 : Int)) = true := by simp
      have st : (S.toList == S.toList) = true := by simp
      clear hb8
      go_wp2_with fail
      go_ret
      exact ⟨rfl, HB8.out⟩
set_option maxRecDepth 100000 in
set_option maxHeartbeats 8000000 in
theorem pieceSays_good (s : ByteArray) (k n : Nat) (lo : Option Addr) (ln lc : Nat) (ss : List ByteArray) (w : World) (hs : s.size ≤ 60) (hk : 1 ≤ k) (hkn : k ≤ n) (hn : n ≤ 10) (h : StrsIn w lo ln ss) (hcap : lo = none → ln = 0 ∧ lc = 0) (hSZ : ln * 16 ≤ 140737488351232) :
    Calls Try.prog 5 #[.string s, .int .i64 k, .int .i64 n, .slice lo ln lc] w (YesP w) := by
  have hs' : s.size ≤ 9223372036854775807 := by omega
  have C1 := Lib.hid (piece_Split s k n w hs hk hkn hn)
  unfold SplitPost at C1
  have CE := Lib.hid (fun W => ref_SplitErr s (k : Int) (n : Int) W hs')
  have CO := Lib.hid (fun W => ref_SplitOf s k n W hs hk hkn hn)
  unfold SplitOfPost at CO
  have hE0 : splitE s (k : Int) (n : Int) = 0 := by
    have hr : rightB (k : Int) (n : Int) = true := by unfold rightB; simp; omega
    unfold splitE
    rw [if_pos hr, if_neg (by omega)]
  rw [hE0] at CE
  have hln : ln ≤ 9223372036854775807 := h.2.1
  have H := Lib.hid h
  have C2 : Hid (∀ W, Below w.heap.size w W → Calls Try.prog 19 #[.slice lo ln lc, .int .i64 (k : Int)] W (JoinPost ss ln (k : Int) W)) := Lib.hid (fun W hb => piece_Join ss ln lo lc (k : Int) W (h.below hb))
  have C3 : Hid (∀ W, Below w.heap.size w W → Calls Try.prog 28 #[.slice lo ln lc, .int .i64 (k : Int)] W (JoinPost ss ln (k : Int) W)) := Lib.hid (fun W hb => ref_JoinOf ss ln lo lc (k : Int) W (h.below hb))
  unfold JoinPost at C2 C3
  have CS := Lib.hid (fun W => piece_Sum s W hs')
  have CT := Lib.hid (fun W => ref_SumOf s W hs')
  have CC : Hid (∀ W, Below w.heap.size w W → Calls Try.prog 22 #[.slice lo ln lc] W (CloneSPost W.heap.size (ss.map Value.string) ln W)) := Lib.hid (fun W hb => clone_str ln (ss.map Value.string) lo lc W.heap.size W (by omega) (by rw [List.length_map]; exact h.1) hcap (Lib.hid (h.below hb).2.2.2) (Lib.hid (by intro u hu; obtain ⟨x, _, rfl⟩ := List.mem_map.1 hu; rfl)) (Nat.le_refl _))
  unfold CloneSPost at CC
  have HL : Hid (ss.length = ln) := Lib.hid h.1
  have HZ : Hid (∀ x ∈ ss ++ [s], x.size ≤ 9223372036854775807) := Lib.hid (by
    intro x hx
    rcases List.mem_append.1 hx with hx | hx
    · exact h.2.2.1 x hx
    · rw [List.mem_singleton.1 hx]; exact hs')
  obtain ⟨xs, hxs⟩ : ∃ xs, ss ++ [s] = xs := ⟨_, rfl⟩
  have HXL : Hid (xs.length = ln + 1) := Lib.hid (by rw [← hxs, List.length_append, h.1]; rfl)
  have HXS : Hid (ss.map Value.string ++ [.string s] = xs.map Value.string) := Lib.hid (by rw [← hxs, List.map_append]; rfl)
  rw [hxs] at HZ
  obtain ⟨L1, hL1⟩ : ∃ L, ln + 1 = L := ⟨_, rfl⟩
  rw [hL1] at HXL
  have hL63 : L1 ≤ 9223372036854775807 := by omega
  have hcc : ((crcN s : Nat) : Int) = ((crcN s : Nat) : Int) := rfl
  obtain ⟨c, hc⟩ : ∃ c, crcN s = c := ⟨_, rfl⟩
  rw [hc] at CS CT
  clear h hxs hcc hc hcap
  go_enter Try.func5, Try.ntmps5
  go_wp2_with fail
  (with_reducible refine C1.out.mono ?_)
  rintro e w1 ⟨gp, rfl, hown, hb1⟩
  have HP1 := Lib.hid hown.reads
  have HB1 := Lib.hid hb1
  clear hown hb1 C1
  go_wp2_with fail
  (with_reducible refine (C2.out _ HB1.out).mono ?_)
  rintro e w2 ⟨S, E1, hJ, rfl, hb2⟩
  have HJ := Lib.hid hJ
  have HB2 := Lib.hid (HB1.out.trans (hb2.mono HB1.out.size))
  have HP2 := Lib.hid (HP1.out.below hb2)
  clear hb2 hJ C2
  go_wp2_with fail
  (with_reducible refine (CS.out _).mono ?_)
  rintro e w3 ⟨rfl, rfl⟩
  go_wp2_with fail
  (with_reducible refine (CT.out _).mono ?_)
  rintro e w4 ⟨rfl, hb4⟩
  have HB4 := Lib.hid (HB2.out.trans (hb4.mono HB2.out.size))
  have HP4 := Lib.hid (HP2.out.below hb4)
  clear hb4
  go_wp2_with fail
  (with_reducible refine (CC.out _ HB4.out).mono ?_)
  rintro e w5 ⟨v5, rfl, hown5, hb5⟩
  have hsz5 := hb5.size
  have HB45 := Lib.hid hb5
  obtain ⟨B5, hB5⟩ : ∃ B, w4.heap.size = B := ⟨_, rfl⟩
  rw [hB5] at hown5 hsz5
  have HO5 := Lib.hid hown5
  have HBB := Lib.hid hsz5
  have HB5 := Lib.hid hB5
  clear hb5 hown5 hB5 hsz5 CC
  go_wp2_with (first
    | (at_builtin; go_must (refine app_one2 rfl (.tmp 37) (.tmp 39) 35 rfl B5 9 _ 1 16 Try.underlying35 strInfoP v5 ln _ (by rfl) HO5.out [.string s] (by rfl) rfl (by intro u hu; simp at hu; subst hu; rfl) (by unfold maxLen; omega) (by omega) HBB.out ?_); intro v6 w6 hown6 hgr6 hb6 hat6; obtain ⟨g6, c6, rfl, hown7⟩ := own_formK hown6 (by simp) hL1; have HO6 : Hid (Reads w6 (some ⟨g6, 0, none⟩) (xs.map Value.string)) := Lib.hid (by rw [← HXS.out]; exact own_reads' hown7); have hb46 : Below w4.heap.size w4 w6 := HB45.out.trans (by rw [HB5.out]; exact hb6); have HB6 := Lib.hid (HB4.out.trans (hb46.mono HB4.out.size));  have HP6 := Lib.hid (HP4.out.below hb46); clear hb46 hown6 hat6 hgr6 hb6)
    | fail)
  go_loopw [42] (fun vi wr => ∃ i : Nat, vi = .int .i64 i ∧ i ≤ L1 ∧ Hid (Reads wr (some ⟨g6, 0, none⟩) (xs.map Value.string)) ∧ Hid (Reads wr (some ⟨gp, 0, none⟩) (rowF n fun j => .string (pieceS s.size (sizeN s.size k) (pcF s k j)))) ∧ Hid (Below w.heap.size w wr)) (fun vi _ => L1 - (intOf vi).toNat)
  case atStart => exact ⟨0, rfl, by omega, HO6, HP6, HB6⟩
  case round =>
    clear HO6 HB6 HP6
    obtain ⟨i, rfl, hi, HO, HP, HB⟩ := hrel
    obtain ⟨wo, rfl⟩ : ∃ wo, wo = wr := ⟨_, rfl⟩
    by_cases hil : i < L1
    · obtain ⟨bx, ox, hra, cx⟩ := HO.out i _ (str_at (by have := HXL.out; omega))
      cases hra
      rw [Nat.zero_add] at cx
      have hxz := HZ.out _ (sAt_mem (ss := xs) (k := i) (by have := HXL.out; omega))
      obtain ⟨x, hx⟩ : ∃ x, sAt xs i = x := ⟨_, rfl⟩
      rw [hx] at cx hxz
      have CK := Lib.hid (fun W => piece_Check x (k : Int) W hxz)
      have CP := Lib.hid (fun W => ref_PieceErr x (k : Int) W hxz)
      unfold ErrB at CK CP
      obtain ⟨F, hF⟩ : ∃ F, pieceE x (k : Int) = F := ⟨_, rfl⟩
      rw [hF] at CK CP
      have i0 : (0 : Int) ≤ (i : Int) := by omega
      have i1 : (i : Int) < (L1 : Int) := by omega
      clear hx hF
      go_wp2_with fail
      (with_reducible refine (CK.out _).mono ?_)
      rintro e w7 ⟨rfl, hb7⟩
      have HO7 := Lib.hid (HO.out.below hb7)
      have HP7 := Lib.hid (HP.out.below hb7)
      have HB7 := Lib.hid (HB.out.trans (hb7.mono HB.out.size))
      clear hb7
      go_wp2_with fail
      (with_reducible refine (CP.out _).mono ?_)
      rintro e w8 ⟨rfl, hb8⟩
      have HO8 := Lib.hid (HO7.out.below hb8)
      have HP8 := Lib.hid (HP7.out.below hb8)
      have HB8 := Lib.hid (HB7.out.trans (hb8.mono HB7.out.size))
      clear hb8
      go_wp2_with fail
      go_roundw
      case rel => exact ⟨i + 1, by go_num, by omega, HO8, HP8, HB8⟩
      case measure => simp [intOf]; omega
    · obtain rfl : L1 = i := by omega
      go_wp2_with fail
      (with_reducible refine (CE.out _).mono ?_)
      rintro e w7 ⟨rfl, rfl⟩
      go_wp2_with fail
      (with_reducible refine (CO.out _).mono ?_)
      rintro e w8 ⟨ao8, c8, rfl, hR8, hb8⟩
      have HR8 := Lib.hid hR8
      have HP8 := Lib.hid (HP.out.below hb8)
      have HB8 := Lib.hid (HB.out.trans (hb8.mono HB.out.size))
      have CQ := Lib.hid (equal_same (fun j => pieceS s.size (sizeN s.size k) (pcF s k j)) n (some ⟨gp, 0, none⟩) ao8 n c8 w8 (by omega) HP8 HR8)
      clear hR8 hb8 CO
      go_wp2_with fail
      (with_reducible refine CQ.out.mono ?_)
      rintro e w9 ⟨rfl, q9, rfl⟩
      have HB9 := Lib.hid (below_drewN HB8.out q9)
      clear CQ
      go_wp2_with fail
      (with_reducible refine (C3.out _ HB9.out).mono ?_)
      rintro e w8 ⟨S8, E8, hJ8, rfl, hb8⟩
      obtain ⟨rfl, rfl⟩ := HJ.out.uniq hJ8
      have HB8 := Lib.hid (HB9.out.trans (hb8.mono HB9.out.size))
      have ee : ((E1 : Int) == (E1 : Int)) = true := by simp
      have st : (S.toList == S.toList) = true := by simp
      clear hb8
      go_wp2_with fail
      go_ret
      exact ⟨rfl, HB8.out⟩
theorem pieceSays_walk (s : ByteArray) (k n : Int) (lo : Option Addr) (ln lc : Nat) (ss : List ByteArray) (w : World) (hs : s.size ≤ maxLen) (_ : (Lit.int .i64 k).wf = true) (_ : (Lit.int .i64 n).wf = true) (h : StrsIn w lo ln ss ∧ CapOk lo ln lc) (hSZ : ln * 16 ≤ 140737488351232) :
    Calls Try.prog 5 #[.string s, .int .i64 k, .int .i64 n, .slice lo ln lc] w fun e w' => e = .returned (.bool true) ∧ Below w.heap.size w w' := by
  by_cases hE : splitE s k n = 0
  · obtain ⟨K, N, rfl, rfl, h1, h2, h3, h4⟩ := splitE_zero hE
    exact pieceSays_good s K N lo ln lc ss w h4 h1 h2 h3 h.1 h.2.1 hSZ
  · exact pieceSays_bad s k n lo ln lc ss w (by unfold maxLen at hs; omega) hE h.1 h.2.1 hSZ
end Go.Proofs.Ythnbhhfbmkklmaa
