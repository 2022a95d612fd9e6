/- CyclicSays's walk. (Printed by wip/tools/gen_cyck.py.) -/
import Derived.Test.YtmgpohomgblkkaaDoorCyc8
namespace Go.Proofs.YtmgpohomgblkkaaDoor
open Go.RowKit

theorem bytes_of_rowC {w : World} {g : Nat} {t : ByteArray} (h : RowC w g t.size (fun j => .int .u8 (byteS t j : Nat))) : Lib.Bytes w g 0 t := by
  intro i hi
  rw [Nat.zero_add, (h i hi).1, byteS_get t i hi]
theorem empty_nil : (ByteArray.empty).toList.isEmpty = true := by rw [ByteArray.toList_eq]; rfl
theorem mk_nil : (ByteArray.mk #[]).toList.isEmpty = true := by rw [ByteArray.toList_eq]; rfl

set_option maxRecDepth 100000 in
set_option maxHeartbeats 4000000 in
theorem cycSays_a (s d : ByteArray) (w : World) (hs : s.size ≤ 9223372036854775807) (hd : d.size ≤ 9223372036854775807) (h0 : byE d ≠ 0) :
    Calls Tryd.prog 3 #[.string s, .string d] w (BoolB true w) := by
  have C1 := Lib.hid (cyc_Put s d w hs hd)
  have C2 := Lib.hid (fun W => cyc_Get s d W hs hd)
  have C3 := Lib.hid (fun W => ref_ByErr d W hd)
  have C4 := Lib.hid (fun W => cyc_Check d W hd)
  unfold TwoP at C1 C2
  unfold ErrC at C3 C4
  have en := empty_nil
  have mn := mk_nil
  have hpE : putE s d = byE d := by unfold putE; rw [if_neg h0]
  have hgE : getE s d = byE d := by unfold getE; rw [if_neg h0]
  have hpX : putX s d = ByteArray.empty := by unfold putX; rw [if_neg (by rw [hpE]; exact h0)]
  have hgX : getX s d = ByteArray.empty := by unfold getX; rw [if_neg (by rw [hgE]; exact h0)]
  rw [hpE, hpX] at C1
  rw [hgE, hgX] at C2
  obtain ⟨E, hE⟩ : ∃ E, byE d = E := ⟨_, rfl⟩
  rw [hE] at C1 C2 C3 C4 h0
  have t0 : ((E : Int) == 0) = false := by simp; omega
  have t0n : ((E : Int) != 0) = true := by simp; omega
  have tt : ((E : Int) == (E : Int)) = true := by simp
  have ttn : ((E : Int) != (E : Int)) = false := by simp
  have t0' : ¬ E = 0 := h0
  clear hE h0 hpE hgE hpX hgX
  go_enter Tryd.func3, Tryd.ntmps3
  go_wp2_with fail
  (with_reducible refine C1.out.mono ?_)
  rintro e w1 ⟨rfl, hb1⟩
  have HB1 := Lib.hid hb1
  clear hb1 C1
  go_wp2_with fail
  (with_reducible refine (C2.out _).mono ?_)
  rintro e w2 ⟨rfl, hb2⟩
  have HB2 := Lib.hid (HB1.out.trans (hb2.mono HB1.out.size))
  clear hb2 C2
  go_wp2_with fail
  (with_reducible refine (C3.out _).mono ?_)
  rintro e w3 ⟨rfl, hb3⟩
  have HB3 := Lib.hid (HB2.out.trans (hb3.mono HB2.out.size))
  clear hb3 C3
  go_wp2_with fail
  (with_reducible refine (C4.out _).mono ?_)
  rintro e w4 ⟨rfl, hb4⟩
  have HB4 := Lib.hid (HB3.out.trans (hb4.mono HB3.out.size))
  clear hb4 C4
  go_wp2_with fail
  go_ret
  exact ⟨rfl, HB4.out⟩
set_option maxRecDepth 100000 in
set_option maxHeartbeats 4000000 in
theorem cycSays_b (s d : ByteArray) (w : World) (hs : s.size ≤ 9223372036854775807) (hd : d.size ≤ 9223372036854775807) (h0 : byE d = 0) (h216 : 216 < s.size) :
    Calls Tryd.prog 3 #[.string s, .string d] w (BoolB true w) := by
  have C1 := Lib.hid (cyc_Put s d w hs hd)
  have C2 := Lib.hid (fun W => cyc_Get s d W hs hd)
  have C3 := Lib.hid (fun W => ref_ByErr d W hd)
  have C4 := Lib.hid (fun W => cyc_Check d W hd)
  unfold TwoP at C1 C2
  unfold ErrC at C3 C4
  have en := empty_nil
  have mn := mk_nil
  have D := byOk_of h0
  have d2 := D.lo
  have d17 := D.hi
  have hpE : putE s d = 2 := by unfold putE; rw [if_pos h0, if_pos (by omega)]
  have hgE : getE s d = 2 := by unfold getE; rw [if_pos h0, if_pos h216]
  have hpX : putX s d = ByteArray.empty := by unfold putX; rw [hpE]; rfl
  have hgX : getX s d = ByteArray.empty := by unfold getX; rw [hgE]; rfl
  rw [hpE, hpX] at C1
  rw [hgE, hgX] at C2
  rw [h0] at C3 C4
  have tb : decide ((200 : Int) < (s.size : Int)) = true := by simp; omega
  have tv : decide ((216 : Int) < (s.size : Int)) = true := by simp; omega
  go_enter Tryd.func3, Tryd.ntmps3
  go_wp2_with fail
  (with_reducible refine C1.out.mono ?_)
  rintro e w1 ⟨rfl, hb1⟩
  have HB1 := Lib.hid hb1
  clear hb1 C1
  go_wp2_with fail
  (with_reducible refine (C2.out _).mono ?_)
  rintro e w2 ⟨rfl, hb2⟩
  have HB2 := Lib.hid (HB1.out.trans (hb2.mono HB1.out.size))
  clear hb2 C2
  go_wp2_with fail
  (with_reducible refine (C3.out _).mono ?_)
  rintro e w3 ⟨rfl, hb3⟩
  have HB3 := Lib.hid (HB2.out.trans (hb3.mono HB2.out.size))
  clear hb3 C3
  go_wp2_with fail
  (with_reducible refine (C4.out _).mono ?_)
  rintro e w4 ⟨rfl, hb4⟩
  have HB4 := Lib.hid (HB3.out.trans (hb4.mono HB3.out.size))
  clear hb4 C4
  go_wp2_with fail
  go_ret
  exact ⟨rfl, HB4.out⟩
set_option maxRecDepth 100000 in
set_option maxHeartbeats 4000000 in
theorem cycSays_c (s d : ByteArray) (w : World) (hs : s.size ≤ 9223372036854775807) (hd : d.size ≤ 9223372036854775807) (h0 : byE d = 0) (h216 : ¬ 216 < s.size) (h200 : 200 < s.size) (hb : bitsB s = false) :
    Calls Tryd.prog 3 #[.string s, .string d] w (BoolB true w) := by
  have C1 := Lib.hid (cyc_Put s d w hs hd)
  have C2 := Lib.hid (fun W => cyc_Get s d W hs hd)
  have C3 := Lib.hid (fun W => ref_ByErr d W hd)
  have C4 := Lib.hid (fun W => cyc_Check d W hd)
  unfold TwoP at C1 C2
  unfold ErrC at C3 C4
  have en := empty_nil
  have mn := mk_nil
  have D := byOk_of h0
  have d2 := D.lo
  have d17 := D.hi
  have hpE : putE s d = 2 := by unfold putE; rw [if_pos h0, if_pos (by omega)]
  have hgE : getE s d = 3 := by unfold getE; rw [if_pos h0, if_neg (by omega), if_neg (by rw [hb]; simp)]
  have hpX : putX s d = ByteArray.empty := by unfold putX; rw [hpE]; rfl
  have hgX : getX s d = ByteArray.empty := by unfold getX; rw [hgE]; rfl
  rw [hpE, hpX] at C1
  rw [hgE, hgX] at C2
  rw [h0] at C3 C4
  have tb : decide ((200 : Int) < (s.size : Int)) = true := by simp; omega
  have tv : decide ((216 : Int) < (s.size : Int)) = false := by simp; omega
  have CB := Lib.hid (fun W => ref_Binary s W hs)
  unfold BoolB at CB
  rw [hb] at CB
  go_enter Tryd.func3, Tryd.ntmps3
  go_wp2_with fail
  (with_reducible refine C1.out.mono ?_)
  rintro e w1 ⟨rfl, hb1⟩
  have HB1 := Lib.hid hb1
  clear hb1 C1
  go_wp2_with fail
  (with_reducible refine (C2.out _).mono ?_)
  rintro e w2 ⟨rfl, hb2⟩
  have HB2 := Lib.hid (HB1.out.trans (hb2.mono HB1.out.size))
  clear hb2 C2
  go_wp2_with fail
  (with_reducible refine (C3.out _).mono ?_)
  rintro e w3 ⟨rfl, hb3⟩
  have HB3 := Lib.hid (HB2.out.trans (hb3.mono HB2.out.size))
  clear hb3 C3
  go_wp2_with fail
  (with_reducible refine (C4.out _).mono ?_)
  rintro e w4 ⟨rfl, hb4⟩
  have HB4 := Lib.hid (HB3.out.trans (hb4.mono HB3.out.size))
  clear hb4 C4
  go_wp2_with fail
  (with_reducible refine (CB.out _).mono ?_)
  rintro e w5 ⟨rfl, hb5⟩
  have HB5 := Lib.hid (HB4.out.trans (hb5.mono HB4.out.size))
  clear hb5
  go_wp2_with fail
  go_ret
  exact ⟨rfl, HB5.out⟩
set_option maxRecDepth 100000 in
set_option maxHeartbeats 4000000 in
theorem cycSays_d (s d : ByteArray) (w : World) (hs : s.size ≤ 9223372036854775807) (hd : d.size ≤ 9223372036854775807) (h0 : byE d = 0) (h216 : ¬ 216 < s.size) (h200 : 200 < s.size) (hb : bitsB s = true) (ho : hasOne (cycR s d) = true) :
    Calls Tryd.prog 3 #[.string s, .string d] w (BoolB true w) := by
  have C1 := Lib.hid (cyc_Put s d w hs hd)
  have C2 := Lib.hid (fun W => cyc_Get s d W hs hd)
  have C3 := Lib.hid (fun W => ref_ByErr d W hd)
  have C4 := Lib.hid (fun W => cyc_Check d W hd)
  unfold TwoP at C1 C2
  unfold ErrC at C3 C4
  have en := empty_nil
  have mn := mk_nil
  have D := byOk_of h0
  have d2 := D.lo
  have d17 := D.hi
  have hpE : putE s d = 2 := by unfold putE; rw [if_pos h0, if_pos (by omega)]
  have hgE : getE s d = 8 := by unfold getE; rw [if_pos h0, if_neg (by omega), if_pos hb, if_neg (by omega), if_pos ho]
  have hpX : putX s d = ByteArray.empty := by unfold putX; rw [hpE]; rfl
  have hgX : getX s d = ByteArray.empty := by unfold getX; rw [hgE]; rfl
  rw [hpE, hpX] at C1
  rw [hgE, hgX] at C2
  rw [h0] at C3 C4
  have tb : decide ((200 : Int) < (s.size : Int)) = true := by simp; omega
  have tv : decide ((216 : Int) < (s.size : Int)) = false := by simp; omega
  have CB := Lib.hid (fun W => ref_Binary s W hs)
  unfold BoolB at CB
  rw [hb] at CB
  obtain ⟨L, hL⟩ : ∃ L, d.size - 1 = L := ⟨_, rfl⟩
  have e1 : (d.size : Int) - 1 = (L : Int) := by omega
  have w1' : IntKind.i64.wrap (L : Int) = (L : Int) := IntWalk.i64_in _ (by omega)
  have ts : decide ((s.size : Int) < (L : Int)) = false := by simp; omega
  have tsN : ¬ s.size < L := by omega
  have CR := Lib.hid (fun W => ref_RestOf s d W (by omega) hb D (by omega))
  unfold StrB at CR
  obtain ⟨R, hR⟩ : ∃ R, cycR s d = R := ⟨_, rfl⟩
  rw [hR] at CR ho
  go_enter Tryd.func3, Tryd.ntmps3
  go_wp2_with fail
  (with_reducible refine C1.out.mono ?_)
  rintro e w1 ⟨rfl, hb1⟩
  have HB1 := Lib.hid hb1
  clear hb1 C1
  go_wp2_with fail
  (with_reducible refine (C2.out _).mono ?_)
  rintro e w2 ⟨rfl, hb2⟩
  have HB2 := Lib.hid (HB1.out.trans (hb2.mono HB1.out.size))
  clear hb2 C2
  go_wp2_with fail
  (with_reducible refine (C3.out _).mono ?_)
  rintro e w3 ⟨rfl, hb3⟩
  have HB3 := Lib.hid (HB2.out.trans (hb3.mono HB2.out.size))
  clear hb3 C3
  go_wp2_with fail
  (with_reducible refine (C4.out _).mono ?_)
  rintro e w4 ⟨rfl, hb4⟩
  have HB4 := Lib.hid (HB3.out.trans (hb4.mono HB3.out.size))
  clear hb4 C4
  go_wp2_with fail
  (with_reducible refine (CB.out _).mono ?_)
  rintro e w5 ⟨rfl, hb5⟩
  have HB5 := Lib.hid (HB4.out.trans (hb5.mono HB4.out.size))
  clear hb5
  go_wp2_with fail
  (with_reducible refine (CR.out _).mono ?_)
  rintro e w6 ⟨rfl, hb6⟩
  have HB6 := Lib.hid (HB5.out.trans (hb6.mono HB5.out.size))
  clear hb6 CR CB
  have BS := run_bytes_of_string (P := Tryd.prog) w6 9 27 5 R Tryd.underlying9 Tryd.underlying27 Tryd.underlying5
  obtain ⟨gc, hgc⟩ : ∃ gc, grownCap w6 R.size 0 5 = gc := ⟨_, rfl⟩
  rw [hgc] at BS
  obtain ⟨gb, hgb⟩ : ∃ gb, w6.heap.size = gb := ⟨_, rfl⟩
  have RC : RowC (w6.drew.alloc (.cells (bytesRow R gc) 5 ((bytesRow R gc).size, (bytesRow R gc).size + 1))) gb R.size (fun j => .int .u8 (byteS R j : Nat)) := by rw [← hgb]; exact rowC_of_string w6.drew R gc
  have B7 : Below w6.heap.size w6 (w6.drew.alloc (.cells (bytesRow R gc) 5 ((bytesRow R gc).size, (bytesRow R gc).size + 1))) := (below_dr _ _ 1).alloc (Nat.le_refl _) _
  obtain ⟨W7, hW7⟩ : ∃ W7, w6.drew.alloc (.cells (bytesRow R gc) 5 ((bytesRow R gc).size, (bytesRow R gc).size + 1)) = W7 := ⟨_, rfl⟩
  rw [hW7] at BS RC B7
  have HB7 := Lib.hid (HB6.out.trans (B7.mono HB6.out.size))
  rw [hgb] at BS
  have CT := Lib.hid (byt_ContainsRune gb gc R W7 (bytes_of_rowC RC))
  rw [ho] at CT
  clear RC B7 hW7 hgc hgb ho hR
  go_wp2_with fail
  clear BS
  (with_reducible refine CT.out.mono ?_)
  rintro e w7 ⟨rfl, rfl⟩
  go_wp2_with fail
  go_ret
  exact ⟨rfl, HB7.out⟩
set_option maxRecDepth 100000 in
set_option maxHeartbeats 4000000 in
theorem cycSays_e (s d : ByteArray) (w : World) (hs : s.size ≤ 9223372036854775807) (hd : d.size ≤ 9223372036854775807) (h0 : byE d = 0) (h216 : ¬ 216 < s.size) (h200 : 200 < s.size) (hb : bitsB s = true) (ho : hasOne (cycR s d) = false) :
    Calls Tryd.prog 3 #[.string s, .string d] w (BoolB true w) := by
  have C1 := Lib.hid (cyc_Put s d w hs hd)
  have C2 := Lib.hid (fun W => cyc_Get s d W hs hd)
  have C3 := Lib.hid (fun W => ref_ByErr d W hd)
  have C4 := Lib.hid (fun W => cyc_Check d W hd)
  unfold TwoP at C1 C2
  unfold ErrC at C3 C4
  have en := empty_nil
  have mn := mk_nil
  have D := byOk_of h0
  have d2 := D.lo
  have d17 := D.hi
  have hpE : putE s d = 2 := by unfold putE; rw [if_pos h0, if_pos (by omega)]
  have hgE : getE s d = 0 := by unfold getE; rw [if_pos h0, if_neg (by omega), if_pos hb, if_neg (by omega), if_neg (by rw [ho]; simp)]
  have hpX : putX s d = ByteArray.empty := by unfold putX; rw [hpE]; rfl
  have hgX : getX s d = s.extract 0 (s.size + 1 - d.size) := by unfold getX; rw [hgE]; rfl
  rw [hpE, hpX] at C1
  rw [hgE, hgX] at C2
  rw [h0] at C3 C4
  have tb : decide ((200 : Int) < (s.size : Int)) = true := by simp; omega
  have tv : decide ((216 : Int) < (s.size : Int)) = false := by simp; omega
  have CB := Lib.hid (fun W => ref_Binary s W hs)
  unfold BoolB at CB
  rw [hb] at CB
  obtain ⟨L, hL⟩ : ∃ L, d.size - 1 = L := ⟨_, rfl⟩
  have e1 : (d.size : Int) - 1 = (L : Int) := by omega
  have w1' : IntKind.i64.wrap (L : Int) = (L : Int) := IntWalk.i64_in _ (by omega)
  have ts : decide ((s.size : Int) < (L : Int)) = false := by simp; omega
  have tsN : ¬ s.size < L := by omega
  have CR := Lib.hid (fun W => ref_RestOf s d W (by omega) hb D (by omega))
  unfold StrB at CR
  obtain ⟨R, hR⟩ : ∃ R, cycR s d = R := ⟨_, rfl⟩
  rw [hR] at CR ho
  obtain ⟨k, hk⟩ : ∃ k, s.size + 1 - d.size = k := ⟨_, rfl⟩
  rw [hk] at C2
  have e3 : (s.size : Int) - (d.size : Int) = (k : Int) - 1 := by omega
  have w3' : IntKind.i64.wrap ((k : Int) - 1) = (k : Int) - 1 := IntWalk.i64_in _ (by omega)
  have e4 : (k : Int) - 1 + 1 = (k : Int) := by omega
  have w4' : IntKind.i64.wrap (k : Int) = (k : Int) := IntWalk.i64_in _ (by omega)
  have k0 : (0 : Int) ≤ (k : Int) := by omega
  have k1 : (k : Int) ≤ (s.size : Int) := by omega
  have k2 : k ≤ s.size := by omega
  have gx : ((s.extract 0 k).toList == (s.extract 0 k).toList) = true := by simp
  go_enter Tryd.func3, Tryd.ntmps3
  go_wp2_with fail
  (with_reducible refine C1.out.mono ?_)
  rintro e w1 ⟨rfl, hb1⟩
  have HB1 := Lib.hid hb1
  clear hb1 C1
  go_wp2_with fail
  (with_reducible refine (C2.out _).mono ?_)
  rintro e w2 ⟨rfl, hb2⟩
  have HB2 := Lib.hid (HB1.out.trans (hb2.mono HB1.out.size))
  clear hb2 C2
  go_wp2_with fail
  (with_reducible refine (C3.out _).mono ?_)
  rintro e w3 ⟨rfl, hb3⟩
  have HB3 := Lib.hid (HB2.out.trans (hb3.mono HB2.out.size))
  clear hb3 C3
  go_wp2_with fail
  (with_reducible refine (C4.out _).mono ?_)
  rintro e w4 ⟨rfl, hb4⟩
  have HB4 := Lib.hid (HB3.out.trans (hb4.mono HB3.out.size))
  clear hb4 C4
  go_wp2_with fail
  (with_reducible refine (CB.out _).mono ?_)
  rintro e w5 ⟨rfl, hb5⟩
  have HB5 := Lib.hid (HB4.out.trans (hb5.mono HB4.out.size))
  clear hb5
  go_wp2_with fail
  (with_reducible refine (CR.out _).mono ?_)
  rintro e w6 ⟨rfl, hb6⟩
  have HB6 := Lib.hid (HB5.out.trans (hb6.mono HB5.out.size))
  clear hb6 CR CB
  have BS := run_bytes_of_string (P := Tryd.prog) w6 9 27 5 R Tryd.underlying9 Tryd.underlying27 Tryd.underlying5
  obtain ⟨gc, hgc⟩ : ∃ gc, grownCap w6 R.size 0 5 = gc := ⟨_, rfl⟩
  rw [hgc] at BS
  obtain ⟨gb, hgb⟩ : ∃ gb, w6.heap.size = gb := ⟨_, rfl⟩
  have RC : RowC (w6.drew.alloc (.cells (bytesRow R gc) 5 ((bytesRow R gc).size, (bytesRow R gc).size + 1))) gb R.size (fun j => .int .u8 (byteS R j : Nat)) := by rw [← hgb]; exact rowC_of_string w6.drew R gc
  have B7 : Below w6.heap.size w6 (w6.drew.alloc (.cells (bytesRow R gc) 5 ((bytesRow R gc).size, (bytesRow R gc).size + 1))) := (below_dr _ _ 1).alloc (Nat.le_refl _) _
  obtain ⟨W7, hW7⟩ : ∃ W7, w6.drew.alloc (.cells (bytesRow R gc) 5 ((bytesRow R gc).size, (bytesRow R gc).size + 1)) = W7 := ⟨_, rfl⟩
  rw [hW7] at BS RC B7
  have HB7 := Lib.hid (HB6.out.trans (B7.mono HB6.out.size))
  rw [hgb] at BS
  have CT := Lib.hid (byt_ContainsRune gb gc R W7 (bytes_of_rowC RC))
  rw [ho] at CT
  clear RC B7 hW7 hgc hgb ho hR
  go_wp2_with fail
  clear BS
  (with_reducible refine CT.out.mono ?_)
  rintro e w7 ⟨rfl, rfl⟩
  go_wp2_with fail
  go_ret
  exact ⟨rfl, HB7.out⟩
set_option maxRecDepth 100000 in
set_option maxHeartbeats 4000000 in
theorem cycSays_f (s d : ByteArray) (w : World) (hs : s.size ≤ 9223372036854775807) (hd : d.size ≤ 9223372036854775807) (h0 : byE d = 0) (h200 : ¬ 200 < s.size) (hb : bitsB s = false) :
    Calls Tryd.prog 3 #[.string s, .string d] w (BoolB true w) := by
  have C1 := Lib.hid (cyc_Put s d w hs hd)
  have C2 := Lib.hid (fun W => cyc_Get s d W hs hd)
  have C3 := Lib.hid (fun W => ref_ByErr d W hd)
  have C4 := Lib.hid (fun W => cyc_Check d W hd)
  unfold TwoP at C1 C2
  unfold ErrC at C3 C4
  have en := empty_nil
  have mn := mk_nil
  have D := byOk_of h0
  have d2 := D.lo
  have d17 := D.hi
  have hpE : putE s d = 3 := by unfold putE; rw [if_pos h0, if_neg h200, if_neg (by rw [hb]; simp)]
  have hgE : getE s d = 3 := by unfold getE; rw [if_pos h0, if_neg (by omega), if_neg (by rw [hb]; simp)]
  have hpX : putX s d = ByteArray.empty := by unfold putX; rw [hpE]; rfl
  have hgX : getX s d = ByteArray.empty := by unfold getX; rw [hgE]; rfl
  rw [hpE, hpX] at C1
  rw [hgE, hgX] at C2
  rw [h0] at C3 C4
  have tb : decide ((200 : Int) < (s.size : Int)) = false := by simp; omega
  have tv : decide ((216 : Int) < (s.size : Int)) = false := by simp; omega
  have CB := Lib.hid (fun W => ref_Binary s W hs)
  unfold BoolB at CB
  rw [hb] at CB
  go_enter Tryd.func3, Tryd.ntmps3
  go_wp2_with fail
  (with_reducible refine C1.out.mono ?_)
  rintro e w1 ⟨rfl, hb1⟩
  have HB1 := Lib.hid hb1
  clear hb1 C1
  go_wp2_with fail
  (with_reducible refine (C2.out _).mono ?_)
  rintro e w2 ⟨rfl, hb2⟩
  have HB2 := Lib.hid (HB1.out.trans (hb2.mono HB1.out.size))
  clear hb2 C2
  go_wp2_with fail
  (with_reducible refine (C3.out _).mono ?_)
  rintro e w3 ⟨rfl, hb3⟩
  have HB3 := Lib.hid (HB2.out.trans (hb3.mono HB2.out.size))
  clear hb3 C3
  go_wp2_with fail
  (with_reducible refine (C4.out _).mono ?_)
  rintro e w4 ⟨rfl, hb4⟩
  have HB4 := Lib.hid (HB3.out.trans (hb4.mono HB3.out.size))
  clear hb4 C4
  go_wp2_with fail
  (with_reducible refine (CB.out _).mono ?_)
  rintro e w5 ⟨rfl, hb5⟩
  have HB5 := Lib.hid (HB4.out.trans (hb5.mono HB4.out.size))
  clear hb5
  go_wp2_with fail
  (with_reducible refine (CB.out _).mono ?_)
  rintro e w6 ⟨rfl, hb6⟩
  have HB6 := Lib.hid (HB5.out.trans (hb6.mono HB5.out.size))
  clear hb6
  go_wp2_with fail
  go_ret
  exact ⟨rfl, HB6.out⟩
set_option maxRecDepth 100000 in
set_option maxHeartbeats 4000000 in
theorem cycSays_g (s d : ByteArray) (w : World) (hs : s.size ≤ 9223372036854775807) (hd : d.size ≤ 9223372036854775807) (h0 : byE d = 0) (h200 : ¬ 200 < s.size) (hb : bitsB s = true) (hsh : s.size + 1 < d.size) :
    Calls Tryd.prog 3 #[.string s, .string d] w (BoolB true w) := by
  have C1 := Lib.hid (cyc_Put s d w hs hd)
  have C2 := Lib.hid (fun W => cyc_Get s d W hs hd)
  have C3 := Lib.hid (fun W => ref_ByErr d W hd)
  have C4 := Lib.hid (fun W => cyc_Check d W hd)
  unfold TwoP at C1 C2
  unfold ErrC at C3 C4
  have en := empty_nil
  have mn := mk_nil
  have D := byOk_of h0
  have d2 := D.lo
  have d17 := D.hi
  have hpE : putE s d = 0 := by unfold putE; rw [if_pos h0, if_neg h200, if_pos hb]
  have hgE : getE s d = 7 := by unfold getE; rw [if_pos h0, if_neg (by omega), if_pos hb, if_pos hsh]
  have hpX : putX s d = s ++ cycR (padS s d) d := by unfold putX; rw [hpE]; rfl
  have hgX : getX s d = ByteArray.empty := by unfold getX; rw [hgE]; rfl
  rw [hpE, hpX] at C1
  rw [hgE, hgX] at C2
  rw [h0] at C3 C4
  have tb : decide ((200 : Int) < (s.size : Int)) = false := by simp; omega
  have tv : decide ((216 : Int) < (s.size : Int)) = false := by simp; omega
  have CB := Lib.hid (fun W => ref_Binary s W hs)
  unfold BoolB at CB
  rw [hb] at CB
  obtain ⟨L, hL⟩ : ∃ L, d.size - 1 = L := ⟨_, rfl⟩
  have e1 : (d.size : Int) - 1 = (L : Int) := by omega
  have w1' : IntKind.i64.wrap (L : Int) = (L : Int) := IntWalk.i64_in _ (by omega)
  have ts : decide ((s.size : Int) < (L : Int)) = true := by simp; omega
  have tsN : s.size < L := by omega
  have hpb := bits_append hb (bits_z L)
  have psz := padS_size s d
  have hpad : padS s d = s ++ zS L := by unfold padS; rw [hL]
  have CRP := Lib.hid (fun W => ref_RestOf (padS s d) d W (by omega) (by rw [hpad]; exact hpb) D (by omega))
  unfold StrB at CRP
  have hrs : (cycR (padS s d) d).size = L := by unfold cycR; rw [bytesOf_size, hL]
  rw [hpad] at CRP C1 hrs
  have CZ := Lib.hid (fun g cap W hx => repeat_byte g L cap W (by omega) (by omega) hx)
  unfold ZPost at CZ
  have hzs := zS_size L
  have KB := Lib.hid (fun G W (h : Reads W (some ⟨G, 0, none⟩) (rowF L fun _ => .int .u8 48)) => conv_back L (fun _ => 48) (some ⟨G, 0, none⟩) L W (fun _ _ => by omega) (fun h => by cases h) h)
  have hzz : bytesOf L (fun _ => 48) = zS L := rfl
  rw [hzz] at KB
  obtain ⟨Z, hZ⟩ : ∃ Z, zS L = Z := ⟨_, rfl⟩
  rw [hZ] at CRP C1 KB hzs hrs
  obtain ⟨RP, hRP⟩ : ∃ RP, cycR (s ++ Z) d = RP := ⟨_, rfl⟩
  rw [hRP] at CRP C1 hrs
  have hsum2 : ¬ (9223372036854775807 < s.size + Z.size) := by omega
  have hsum3 : ¬ (9223372036854775807 < s.size + RP.size) := by omega
  have hsum4 : ¬ (9223372036854775807 < s.size + L) := by omega
  obtain ⟨X, hX⟩ : ∃ X, s ++ RP = X := ⟨_, rfl⟩
  rw [hX] at C1
  have xx : (X.toList == X.toList) = true := by simp
  have xxn : (X.toList != X.toList) = false := by simp
  go_enter Tryd.func3, Tryd.ntmps3
  go_wp2_with fail
  (with_reducible refine C1.out.mono ?_)
  rintro e w1 ⟨rfl, hb1⟩
  have HB1 := Lib.hid hb1
  clear hb1 C1
  go_wp2_with fail
  (with_reducible refine (C2.out _).mono ?_)
  rintro e w2 ⟨rfl, hb2⟩
  have HB2 := Lib.hid (HB1.out.trans (hb2.mono HB1.out.size))
  clear hb2 C2
  go_wp2_with fail
  (with_reducible refine (C3.out _).mono ?_)
  rintro e w3 ⟨rfl, hb3⟩
  have HB3 := Lib.hid (HB2.out.trans (hb3.mono HB2.out.size))
  clear hb3 C3
  go_wp2_with fail
  (with_reducible refine (C4.out _).mono ?_)
  rintro e w4 ⟨rfl, hb4⟩
  have HB4 := Lib.hid (HB3.out.trans (hb4.mono HB3.out.size))
  clear hb4 C4
  go_wp2_with fail
  (with_reducible refine (CB.out _).mono ?_)
  rintro e w5 ⟨rfl, hb5⟩
  have HB5 := Lib.hid (HB4.out.trans (hb5.mono HB4.out.size))
  clear hb5
  go_wp2_with fail
  have hz0 : (w5.alloc (.cells #[.int .u8 48] 5)).cell? ⟨w5.heap.size, 0, none⟩ = some (.int .u8 48) := heap_cell (heap_alloc_new _ _) 0
  have hal : Below w5.heap.size w5 (w5.alloc (.cells #[.int .u8 48] 5)) := (Below.refl _ _).alloc (Nat.le_refl _) _
  (with_reducible refine (CZ.out _ _ _ hz0).mono ?_)
  rintro e w6 ⟨G, rfl, hRd, hbz⟩
  have HB6 := Lib.hid (HB5.out.trans ((hal.trans (hbz.mono hal.size)).mono HB5.out.size))
  have kb1 := KB.out G w6 hRd
  have kb2 := KB.out G w6.drew (hRd.below (below_dr _ _ 1))
  clear hbz hal hz0 CZ KB hRd
  go_wp2_with fail
  (with_reducible refine (CRP.out _).mono ?_)
  rintro e w7 ⟨rfl, hb7⟩
  have HB7 := Lib.hid (HB6.out.trans (hb7.mono HB6.out.size))
  clear hb7 CRP kb1 kb2
  go_wp2_with fail
  (with_reducible refine (CB.out _).mono ?_)
  rintro e w8 ⟨rfl, hb8⟩
  have HB8 := Lib.hid (HB7.out.trans (hb8.mono HB7.out.size))
  clear hb8
  go_wp2_with fail
  go_ret
  exact ⟨rfl, HB8.out⟩
set_option maxRecDepth 100000 in
set_option maxHeartbeats 4000000 in
theorem cycSays_h (s d : ByteArray) (w : World) (hs : s.size ≤ 9223372036854775807) (hd : d.size ≤ 9223372036854775807) (h0 : byE d = 0) (h200 : ¬ 200 < s.size) (hb : bitsB s = true) (hsh : ¬ s.size + 1 < d.size) (ho : hasOne (cycR s d) = true) :
    Calls Tryd.prog 3 #[.string s, .string d] w (BoolB true w) := by
  have C1 := Lib.hid (cyc_Put s d w hs hd)
  have C2 := Lib.hid (fun W => cyc_Get s d W hs hd)
  have C3 := Lib.hid (fun W => ref_ByErr d W hd)
  have C4 := Lib.hid (fun W => cyc_Check d W hd)
  unfold TwoP at C1 C2
  unfold ErrC at C3 C4
  have en := empty_nil
  have mn := mk_nil
  have D := byOk_of h0
  have d2 := D.lo
  have d17 := D.hi
  have hpE : putE s d = 0 := by unfold putE; rw [if_pos h0, if_neg h200, if_pos hb]
  have hgE : getE s d = 8 := by unfold getE; rw [if_pos h0, if_neg (by omega), if_pos hb, if_neg (by omega), if_pos ho]
  have hpX : putX s d = s ++ cycR (padS s d) d := by unfold putX; rw [hpE]; rfl
  have hgX : getX s d = ByteArray.empty := by unfold getX; rw [hgE]; rfl
  rw [hpE, hpX] at C1
  rw [hgE, hgX] at C2
  rw [h0] at C3 C4
  have tb : decide ((200 : Int) < (s.size : Int)) = false := by simp; omega
  have tv : decide ((216 : Int) < (s.size : Int)) = false := by simp; omega
  have CB := Lib.hid (fun W => ref_Binary s W hs)
  unfold BoolB at CB
  rw [hb] at CB
  obtain ⟨L, hL⟩ : ∃ L, d.size - 1 = L := ⟨_, rfl⟩
  have e1 : (d.size : Int) - 1 = (L : Int) := by omega
  have w1' : IntKind.i64.wrap (L : Int) = (L : Int) := IntWalk.i64_in _ (by omega)
  have ts : decide ((s.size : Int) < (L : Int)) = false := by simp; omega
  have tsN : ¬ s.size < L := by omega
  have CR := Lib.hid (fun W => ref_RestOf s d W (by omega) hb D (by omega))
  unfold StrB at CR
  have hpb := bits_append hb (bits_z L)
  have psz := padS_size s d
  have hpad : padS s d = s ++ zS L := by unfold padS; rw [hL]
  have CRP := Lib.hid (fun W => ref_RestOf (padS s d) d W (by omega) (by rw [hpad]; exact hpb) D (by omega))
  unfold StrB at CRP
  have hrs : (cycR (padS s d) d).size = L := by unfold cycR; rw [bytesOf_size, hL]
  rw [hpad] at CRP C1 hrs
  have CZ := Lib.hid (fun g cap W hx => repeat_byte g L cap W (by omega) (by omega) hx)
  unfold ZPost at CZ
  have hzs := zS_size L
  have KB := Lib.hid (fun G W (h : Reads W (some ⟨G, 0, none⟩) (rowF L fun _ => .int .u8 48)) => conv_back L (fun _ => 48) (some ⟨G, 0, none⟩) L W (fun _ _ => by omega) (fun h => by cases h) h)
  have hzz : bytesOf L (fun _ => 48) = zS L := rfl
  rw [hzz] at KB
  obtain ⟨Z, hZ⟩ : ∃ Z, zS L = Z := ⟨_, rfl⟩
  rw [hZ] at CRP C1 KB hzs hrs
  obtain ⟨RP, hRP⟩ : ∃ RP, cycR (s ++ Z) d = RP := ⟨_, rfl⟩
  rw [hRP] at CRP C1 hrs
  have hsum2 : ¬ (9223372036854775807 < s.size + Z.size) := by omega
  have hsum3 : ¬ (9223372036854775807 < s.size + RP.size) := by omega
  have hsum4 : ¬ (9223372036854775807 < s.size + L) := by omega
  obtain ⟨X, hX⟩ : ∃ X, s ++ RP = X := ⟨_, rfl⟩
  rw [hX] at C1
  have xx : (X.toList == X.toList) = true := by simp
  have xxn : (X.toList != X.toList) = false := by simp
  obtain ⟨R, hR⟩ : ∃ R, cycR s d = R := ⟨_, rfl⟩
  rw [hR] at CR ho
  go_enter Tryd.func3, Tryd.ntmps3
  go_wp2_with fail
  (with_reducible refine C1.out.mono ?_)
  rintro e w1 ⟨rfl, hb1⟩
  have HB1 := Lib.hid hb1
  clear hb1 C1
  go_wp2_with fail
  (with_reducible refine (C2.out _).mono ?_)
  rintro e w2 ⟨rfl, hb2⟩
  have HB2 := Lib.hid (HB1.out.trans (hb2.mono HB1.out.size))
  clear hb2 C2
  go_wp2_with fail
  (with_reducible refine (C3.out _).mono ?_)
  rintro e w3 ⟨rfl, hb3⟩
  have HB3 := Lib.hid (HB2.out.trans (hb3.mono HB2.out.size))
  clear hb3 C3
  go_wp2_with fail
  (with_reducible refine (C4.out _).mono ?_)
  rintro e w4 ⟨rfl, hb4⟩
  have HB4 := Lib.hid (HB3.out.trans (hb4.mono HB3.out.size))
  clear hb4 C4
  go_wp2_with fail
  (with_reducible refine (CB.out _).mono ?_)
  rintro e w5 ⟨rfl, hb5⟩
  have HB5 := Lib.hid (HB4.out.trans (hb5.mono HB4.out.size))
  clear hb5
  go_wp2_with fail
  have hz0 : (w5.alloc (.cells #[.int .u8 48] 5)).cell? ⟨w5.heap.size, 0, none⟩ = some (.int .u8 48) := heap_cell (heap_alloc_new _ _) 0
  have hal : Below w5.heap.size w5 (w5.alloc (.cells #[.int .u8 48] 5)) := (Below.refl _ _).alloc (Nat.le_refl _) _
  (with_reducible refine (CZ.out _ _ _ hz0).mono ?_)
  rintro e w6 ⟨G, rfl, hRd, hbz⟩
  have HB6 := Lib.hid (HB5.out.trans ((hal.trans (hbz.mono hal.size)).mono HB5.out.size))
  have kb1 := KB.out G w6 hRd
  have kb2 := KB.out G w6.drew (hRd.below (below_dr _ _ 1))
  clear hbz hal hz0 CZ KB hRd
  go_wp2_with fail
  (with_reducible refine (CRP.out _).mono ?_)
  rintro e w7 ⟨rfl, hb7⟩
  have HB7 := Lib.hid (HB6.out.trans (hb7.mono HB6.out.size))
  clear hb7 CRP kb1 kb2
  go_wp2_with fail
  (with_reducible refine (CB.out _).mono ?_)
  rintro e w8 ⟨rfl, hb8⟩
  have HB8 := Lib.hid (HB7.out.trans (hb8.mono HB7.out.size))
  clear hb8
  go_wp2_with fail
  (with_reducible refine (CR.out _).mono ?_)
  rintro e w9 ⟨rfl, hb9⟩
  have HB9 := Lib.hid (HB8.out.trans (hb9.mono HB8.out.size))
  clear hb9 CR CB
  have BS := run_bytes_of_string (P := Tryd.prog) w9 9 27 5 R Tryd.underlying9 Tryd.underlying27 Tryd.underlying5
  obtain ⟨gc, hgc⟩ : ∃ gc, grownCap w9 R.size 0 5 = gc := ⟨_, rfl⟩
  rw [hgc] at BS
  obtain ⟨gb, hgb⟩ : ∃ gb, w9.heap.size = gb := ⟨_, rfl⟩
  have RC : RowC (w9.drew.alloc (.cells (bytesRow R gc) 5 ((bytesRow R gc).size, (bytesRow R gc).size + 1))) gb R.size (fun j => .int .u8 (byteS R j : Nat)) := by rw [← hgb]; exact rowC_of_string w9.drew R gc
  have B7 : Below w9.heap.size w9 (w9.drew.alloc (.cells (bytesRow R gc) 5 ((bytesRow R gc).size, (bytesRow R gc).size + 1))) := (below_dr _ _ 1).alloc (Nat.le_refl _) _
  obtain ⟨W7, hW7⟩ : ∃ W7, w9.drew.alloc (.cells (bytesRow R gc) 5 ((bytesRow R gc).size, (bytesRow R gc).size + 1)) = W7 := ⟨_, rfl⟩
  rw [hW7] at BS RC B7
  have HB7 := Lib.hid (HB9.out.trans (B7.mono HB9.out.size))
  rw [hgb] at BS
  have CT := Lib.hid (byt_ContainsRune gb gc R W7 (bytes_of_rowC RC))
  rw [ho] at CT
  clear RC B7 hW7 hgc hgb ho hR
  go_wp2_with fail
  clear BS
  (with_reducible refine CT.out.mono ?_)
  rintro e w10 ⟨rfl, rfl⟩
  go_wp2_with fail
  go_ret
  exact ⟨rfl, HB7.out⟩
set_option maxRecDepth 100000 in
set_option maxHeartbeats 4000000 in
theorem cycSays_i (s d : ByteArray) (w : World) (hs : s.size ≤ 9223372036854775807) (hd : d.size ≤ 9223372036854775807) (h0 : byE d = 0) (h200 : ¬ 200 < s.size) (hb : bitsB s = true) (hsh : ¬ s.size + 1 < d.size) (ho : hasOne (cycR s d) = false) :
    Calls Tryd.prog 3 #[.string s, .string d] w (BoolB true w) := by
  have C1 := Lib.hid (cyc_Put s d w hs hd)
  have C2 := Lib.hid (fun W => cyc_Get s d W hs hd)
  have C3 := Lib.hid (fun W => ref_ByErr d W hd)
  have C4 := Lib.hid (fun W => cyc_Check d W hd)
  unfold TwoP at C1 C2
  unfold ErrC at C3 C4
  have en := empty_nil
  have mn := mk_nil
  have D := byOk_of h0
  have d2 := D.lo
  have d17 := D.hi
  have hpE : putE s d = 0 := by unfold putE; rw [if_pos h0, if_neg h200, if_pos hb]
  have hgE : getE s d = 0 := by unfold getE; rw [if_pos h0, if_neg (by omega), if_pos hb, if_neg (by omega), if_neg (by rw [ho]; simp)]
  have hpX : putX s d = s ++ cycR (padS s d) d := by unfold putX; rw [hpE]; rfl
  have hgX : getX s d = s.extract 0 (s.size + 1 - d.size) := by unfold getX; rw [hgE]; rfl
  rw [hpE, hpX] at C1
  rw [hgE, hgX] at C2
  rw [h0] at C3 C4
  have tb : decide ((200 : Int) < (s.size : Int)) = false := by simp; omega
  have tv : decide ((216 : Int) < (s.size : Int)) = false := by simp; omega
  have CB := Lib.hid (fun W => ref_Binary s W hs)
  unfold BoolB at CB
  rw [hb] at CB
  obtain ⟨L, hL⟩ : ∃ L, d.size - 1 = L := ⟨_, rfl⟩
  have e1 : (d.size : Int) - 1 = (L : Int) := by omega
  have w1' : IntKind.i64.wrap (L : Int) = (L : Int) := IntWalk.i64_in _ (by omega)
  have ts : decide ((s.size : Int) < (L : Int)) = false := by simp; omega
  have tsN : ¬ s.size < L := by omega
  have CR := Lib.hid (fun W => ref_RestOf s d W (by omega) hb D (by omega))
  unfold StrB at CR
  have hpb := bits_append hb (bits_z L)
  have psz := padS_size s d
  have hpad : padS s d = s ++ zS L := by unfold padS; rw [hL]
  have CRP := Lib.hid (fun W => ref_RestOf (padS s d) d W (by omega) (by rw [hpad]; exact hpb) D (by omega))
  unfold StrB at CRP
  have hrs : (cycR (padS s d) d).size = L := by unfold cycR; rw [bytesOf_size, hL]
  rw [hpad] at CRP C1 hrs
  have CZ := Lib.hid (fun g cap W hx => repeat_byte g L cap W (by omega) (by omega) hx)
  unfold ZPost at CZ
  have hzs := zS_size L
  have KB := Lib.hid (fun G W (h : Reads W (some ⟨G, 0, none⟩) (rowF L fun _ => .int .u8 48)) => conv_back L (fun _ => 48) (some ⟨G, 0, none⟩) L W (fun _ _ => by omega) (fun h => by cases h) h)
  have hzz : bytesOf L (fun _ => 48) = zS L := rfl
  rw [hzz] at KB
  obtain ⟨Z, hZ⟩ : ∃ Z, zS L = Z := ⟨_, rfl⟩
  rw [hZ] at CRP C1 KB hzs hrs
  obtain ⟨RP, hRP⟩ : ∃ RP, cycR (s ++ Z) d = RP := ⟨_, rfl⟩
  rw [hRP] at CRP C1 hrs
  have hsum2 : ¬ (9223372036854775807 < s.size + Z.size) := by omega
  have hsum3 : ¬ (9223372036854775807 < s.size + RP.size) := by omega
  have hsum4 : ¬ (9223372036854775807 < s.size + L) := by omega
  obtain ⟨X, hX⟩ : ∃ X, s ++ RP = X := ⟨_, rfl⟩
  rw [hX] at C1
  have xx : (X.toList == X.toList) = true := by simp
  have xxn : (X.toList != X.toList) = false := by simp
  obtain ⟨R, hR⟩ : ∃ R, cycR s d = R := ⟨_, rfl⟩
  rw [hR] at CR ho
  obtain ⟨k, hk⟩ : ∃ k, s.size + 1 - d.size = k := ⟨_, rfl⟩
  rw [hk] at C2
  have e3 : (s.size : Int) - (d.size : Int) = (k : Int) - 1 := by omega
  have w3' : IntKind.i64.wrap ((k : Int) - 1) = (k : Int) - 1 := IntWalk.i64_in _ (by omega)
  have e4 : (k : Int) - 1 + 1 = (k : Int) := by omega
  have w4' : IntKind.i64.wrap (k : Int) = (k : Int) := IntWalk.i64_in _ (by omega)
  have k0 : (0 : Int) ≤ (k : Int) := by omega
  have k1 : (k : Int) ≤ (s.size : Int) := by omega
  have k2 : k ≤ s.size := by omega
  have gx : ((s.extract 0 k).toList == (s.extract 0 k).toList) = true := by simp
  go_enter Tryd.func3, Tryd.ntmps3
  go_wp2_with fail
  (with_reducible refine C1.out.mono ?_)
  rintro e w1 ⟨rfl, hb1⟩
  have HB1 := Lib.hid hb1
  clear hb1 C1
  go_wp2_with fail
  (with_reducible refine (C2.out _).mono ?_)
  rintro e w2 ⟨rfl, hb2⟩
  have HB2 := Lib.hid (HB1.out.trans (hb2.mono HB1.out.size))
  clear hb2 C2
  go_wp2_with fail
  (with_reducible refine (C3.out _).mono ?_)
  rintro e w3 ⟨rfl, hb3⟩
  have HB3 := Lib.hid (HB2.out.trans (hb3.mono HB2.out.size))
  clear hb3 C3
  go_wp2_with fail
  (with_reducible refine (C4.out _).mono ?_)
  rintro e w4 ⟨rfl, hb4⟩
  have HB4 := Lib.hid (HB3.out.trans (hb4.mono HB3.out.size))
  clear hb4 C4
  go_wp2_with fail
  (with_reducible refine (CB.out _).mono ?_)
  rintro e w5 ⟨rfl, hb5⟩
  have HB5 := Lib.hid (HB4.out.trans (hb5.mono HB4.out.size))
  clear hb5
  go_wp2_with fail
  have hz0 : (w5.alloc (.cells #[.int .u8 48] 5)).cell? ⟨w5.heap.size, 0, none⟩ = some (.int .u8 48) := heap_cell (heap_alloc_new _ _) 0
  have hal : Below w5.heap.size w5 (w5.alloc (.cells #[.int .u8 48] 5)) := (Below.refl _ _).alloc (Nat.le_refl _) _
  (with_reducible refine (CZ.out _ _ _ hz0).mono ?_)
  rintro e w6 ⟨G, rfl, hRd, hbz⟩
  have HB6 := Lib.hid (HB5.out.trans ((hal.trans (hbz.mono hal.size)).mono HB5.out.size))
  have kb1 := KB.out G w6 hRd
  have kb2 := KB.out G w6.drew (hRd.below (below_dr _ _ 1))
  clear hbz hal hz0 CZ KB hRd
  go_wp2_with fail
  (with_reducible refine (CRP.out _).mono ?_)
  rintro e w7 ⟨rfl, hb7⟩
  have HB7 := Lib.hid (HB6.out.trans (hb7.mono HB6.out.size))
  clear hb7 CRP kb1 kb2
  go_wp2_with fail
  (with_reducible refine (CB.out _).mono ?_)
  rintro e w8 ⟨rfl, hb8⟩
  have HB8 := Lib.hid (HB7.out.trans (hb8.mono HB7.out.size))
  clear hb8
  go_wp2_with fail
  (with_reducible refine (CR.out _).mono ?_)
  rintro e w9 ⟨rfl, hb9⟩
  have HB9 := Lib.hid (HB8.out.trans (hb9.mono HB8.out.size))
  clear hb9 CR CB
  have BS := run_bytes_of_string (P := Tryd.prog) w9 9 27 5 R Tryd.underlying9 Tryd.underlying27 Tryd.underlying5
  obtain ⟨gc, hgc⟩ : ∃ gc, grownCap w9 R.size 0 5 = gc := ⟨_, rfl⟩
  rw [hgc] at BS
  obtain ⟨gb, hgb⟩ : ∃ gb, w9.heap.size = gb := ⟨_, rfl⟩
  have RC : RowC (w9.drew.alloc (.cells (bytesRow R gc) 5 ((bytesRow R gc).size, (bytesRow R gc).size + 1))) gb R.size (fun j => .int .u8 (byteS R j : Nat)) := by rw [← hgb]; exact rowC_of_string w9.drew R gc
  have B7 : Below w9.heap.size w9 (w9.drew.alloc (.cells (bytesRow R gc) 5 ((bytesRow R gc).size, (bytesRow R gc).size + 1))) := (below_dr _ _ 1).alloc (Nat.le_refl _) _
  obtain ⟨W7, hW7⟩ : ∃ W7, w9.drew.alloc (.cells (bytesRow R gc) 5 ((bytesRow R gc).size, (bytesRow R gc).size + 1)) = W7 := ⟨_, rfl⟩
  rw [hW7] at BS RC B7
  have HB7 := Lib.hid (HB9.out.trans (B7.mono HB9.out.size))
  rw [hgb] at BS
  have CT := Lib.hid (byt_ContainsRune gb gc R W7 (bytes_of_rowC RC))
  rw [ho] at CT
  clear RC B7 hW7 hgc hgb ho hR
  go_wp2_with fail
  clear BS
  (with_reducible refine CT.out.mono ?_)
  rintro e w10 ⟨rfl, rfl⟩
  go_wp2_with fail
  go_ret
  exact ⟨rfl, HB7.out⟩
theorem cyclicSays_walk (s d : ByteArray) (w : World) (hs' : s.size ≤ maxLen) (hd' : d.size ≤ maxLen) :
    Calls Tryd.prog 3 #[.string s, .string d] w fun e w' => e = .returned (.bool true) ∧ Below w.heap.size w w' := by
  have hs : s.size ≤ 9223372036854775807 := by unfold maxLen at hs'; omega
  have hd : d.size ≤ 9223372036854775807 := by unfold maxLen at hd'; omega
  by_cases h0 : byE d = 0
  · have d17 := (byOk_of h0).hi
    by_cases h216 : 216 < s.size
    · exact cycSays_b s d w hs hd h0 h216
    by_cases h200 : 200 < s.size
    · cases hb : bitsB s with
      | false => exact cycSays_c s d w hs hd h0 h216 h200 hb
      | true =>
        cases ho : hasOne (cycR s d) with
        | true => exact cycSays_d s d w hs hd h0 h216 h200 hb ho
        | false => exact cycSays_e s d w hs hd h0 h216 h200 hb ho
    · cases hb : bitsB s with
      | false => exact cycSays_f s d w hs hd h0 h200 hb
      | true =>
        by_cases hsh : s.size + 1 < d.size
        · exact cycSays_g s d w hs hd h0 h200 hb hsh
        cases ho : hasOne (cycR s d) with
        | true => exact cycSays_h s d w hs hd h0 h200 hb hsh ho
        | false => exact cycSays_i s d w hs hd h0 h200 hb hsh ho
  · exact cycSays_a s d w hs hd h0
end Go.Proofs.YtmgpohomgblkkaaDoor
