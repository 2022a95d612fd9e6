/- PairSays's walk. (Printed by wip/tools/gen_pairk.py.) -/
import Derived.Test.YthnbhhfbmkklmaaPair7
namespace Go.Proofs.Ythnbhhfbmkklmaa
open Go.RowKit

theorem StrsIn.below {w w' : World} {ao : Option Addr} {n : Nat} {ss : List ByteArray} (h : StrsIn w ao n ss) (hb : Below w.heap.size w w') : StrsIn w' ao n ss := ⟨h.1, h.2.1, h.2.2.1, h.2.2.2.below hb⟩
def Yes (w : World) (e : Ending) (w' : World) : Prop := e = .returned (.bool true) ∧ Below w.heap.size w w'
set_option maxRecDepth 100000 in
set_option maxHeartbeats 4000000 in
theorem pairSays_bad (ss : List ByteArray) (n : Nat) (ao : Option Addr) (cap : Nat) (p q : ByteArray) (ln : Nat) (lo : Option Addr) (lc : Nat) (w : World) (h : StrsIn w ao n ss) (E : Nat) (hE : chkP ss = E) (hE0 : E ≠ 0) :
    Calls Try.prog 4 #[.slice ao n cap, .string p, .string q, .slice lo ln lc] w (Yes w) := by
  have C1 := Lib.hid (pair_Put_bad ss n ao cap w h E hE hE0)
  have C2 := Lib.hid (pair_Mend_bad ss n ao cap p q ln lo lc w E hE0 (by
    exact checkLost_bad ss n ao cap p q [] ln lo lc w h E hE hE0))
  have C3 := Lib.hid (fun W (hb : Below w.heap.size w W) => ref_PairOf_bad ss n ao cap W (h.below hb) E hE hE0)
  have hz : ((E : Int) == 0) = false := by simp; omega
  have hz2 : ((E : Int) != 0) = true := by simp; omega
  have hz3 : ¬ (E = 0) := hE0
  clear hE hE0 h
  unfold PutBad at C1 C3
  unfold MendNo at C2
  go_enter Try.func4, Try.ntmps4
  go_wp2_with fail
  (with_reducible refine C1.out.mono ?_)
  rintro e w1 ⟨rfl, rfl⟩
  go_wp2_with fail
  (with_reducible refine C2.out.mono ?_)
  rintro e w2 ⟨rfl, hb2⟩
  have HB2 := Lib.hid hb2
  clear hb2
  go_wp2_with fail
  (with_reducible refine (C3.out _ HB2.out).mono ?_)
  rintro e w3 ⟨rfl, rfl⟩
  go_wp2_with fail
  go_ret
  exact ⟨rfl, HB2.out⟩
/-- Put and the reference's PairOf hand back the same. -/
theorem put_both (ss : List ByteArray) (n m : Nat) (ao : Option Addr) (cap : Nat) (w : World) (h : StrsIn w ao n ss) (hr : Right ss n m) : ∃ X Y : ByteArray,
    Calls Try.prog 13 #[.slice ao n cap] w (fun e w' => e = .returned (.tuple #[.string X, .string Y, .int .i64 0]) ∧ Below w.heap.size w w') ∧
    ∀ W, Below w.heap.size w W → Calls Try.prog 15 #[.slice ao n cap] W (fun e w' => e = .returned (.tuple #[.string X, .string Y, .int .i64 0]) ∧ Below W.heap.size W w') :=
  ⟨_, _, pair_Put ss n m ao cap w h hr (chk_right hr), fun W hb => ref_PairOf ss n m ao cap W hr (Lib.hid (h.below hb).2.2.2)⟩

set_option maxRecDepth 100000 in
set_option maxHeartbeats 4000000 in
theorem pairSays_formp (ss : List ByteArray) (n m : Nat) (ao : Option Addr) (cap : Nat) (p q : ByteArray) (lost : List Int) (ln : Nat) (lo : Option Addr) (lc : Nat) (w : World) (h : StrsIn w ao n ss) (hr : Right ss n m) (hp64 : p.size ≤ 9223372036854775807) (hq64 : q.size ≤ 9223372036854775807)
    (hs : p.size ≠ m) (hl : lost.length = ln) (hln : ln ≤ 9223372036854775807) (hL : Reads w lo ((lost : List Int).map (Value.int .i64))) :
    Calls Try.prog 4 #[.slice ao n cap, .string p, .string q, .slice lo ln lc] w (Yes w) := by
  obtain ⟨X, Y, c1, c3⟩ := put_both ss n m ao cap w h hr
  have C1 := Lib.hid c1
  have C3 := Lib.hid c3
  have H := Lib.hid h
  have HR := Lib.hid hr
  obtain ⟨b0, o0, s0, rfl, c0, hz0⟩ := head_cell hr h.2.2.2
  have n0 : 0 < n := hr.n1
  have n10 := hr.n10
  have m64 := hr.m64
  have HL := Lib.hid hL
  have C2f : Hid (∀ W, Below w.heap.size w W → Calls Try.prog 14 #[.slice (some ⟨b0, o0, none⟩) n cap, .string p, .string q, .slice lo ln lc] W (MendNo 3 W)) := Lib.hid (fun W hb => pair_Mend_bad ss n _ cap p q ln lo lc W 3 (by omega) (checkLost_form ss n m _ cap p q lost ln lo lc W (h.below hb) hr (chk_right hr) (.inl hs) hp64 hq64))
  unfold MendNo at C2f
  have d1 : ((p.size : Int) == (s0.size : Int)) = false := by simp; omega
  have d1n : ((p.size : Int) != (s0.size : Int)) = true := by rw [bne, d1]; rfl
  have HS := Lib.hid hs
  clear hs
  clear hr h hz0 c1 c3 hL
  go_enter Try.func4, Try.ntmps4
  go_wp2_with fail
  (with_reducible refine C1.out.mono ?_)
  rintro e w1 ⟨rfl, hb1⟩
  have HB1 := Lib.hid hb1
  have C2 := Lib.hid (C2f.out w1 HB1.out)
  clear C2f hb1
  go_wp2_with fail
  (with_reducible refine C2.out.mono ?_)
  rintro e w2 ⟨rfl, hb2⟩
  have HB2 := Lib.hid (HB1.out.trans (hb2.mono HB1.out.size))
  clear hb2
  go_wp2_with fail
  (with_reducible refine (C3.out _ HB2.out).mono ?_)
  rintro e w3 ⟨rfl, hb3⟩
  have HB3 := Lib.hid (HB2.out.trans (hb3.mono HB2.out.size))
  clear hb3
  replace c0 := (HB3.out.cell (World.block_lt_of_cell? w _ c0)).trans c0
  go_wp2_with fail
  go_loop [16, 89] (fun vw vi => ∃ i : Nat, vi = .int .i64 i ∧ i ≤ ln ∧ vw = .int .i64 3) (fun _ vi => ln - (intOf vi).toNat)
  case atStart => exact ⟨0, rfl, by omega, rfl⟩
  case round =>
    obtain ⟨i, rfl, hi, rfl⟩ := hrel
    by_cases hil : i < ln
    · obtain ⟨a, ha⟩ : ∃ a, lost[i]? = some a := ⟨lost[i]'(by omega), List.getElem?_eq_getElem _⟩
      obtain ⟨lb, lof, rfl, lc0⟩ := lost_at (HL.out.below HB3.out) ha
      clear ha
      go_wp2_with fail
      go_round
      case rel => exact ⟨i + 1, by go_num, by omega, rfl⟩
      case measure => simp [intOf]; omega
    · obtain rfl : i = ln := by omega
      go_wp2_with fail
      go_ret
      exact ⟨rfl, HB3.out⟩
set_option maxRecDepth 100000 in
set_option maxHeartbeats 4000000 in
theorem pairSays_formq (ss : List ByteArray) (n m : Nat) (ao : Option Addr) (cap : Nat) (p q : ByteArray) (lost : List Int) (ln : Nat) (lo : Option Addr) (lc : Nat) (w : World) (h : StrsIn w ao n ss) (hr : Right ss n m) (hp64 : p.size ≤ 9223372036854775807) (hq64 : q.size ≤ 9223372036854775807)
    (hp : p.size = m) (hs : q.size ≠ m) (hl : lost.length = ln) (hln : ln ≤ 9223372036854775807) (hL : Reads w lo ((lost : List Int).map (Value.int .i64))) :
    Calls Try.prog 4 #[.slice ao n cap, .string p, .string q, .slice lo ln lc] w (Yes w) := by
  obtain ⟨X, Y, c1, c3⟩ := put_both ss n m ao cap w h hr
  have C1 := Lib.hid c1
  have C3 := Lib.hid c3
  have H := Lib.hid h
  have HR := Lib.hid hr
  obtain ⟨b0, o0, s0, rfl, c0, hz0⟩ := head_cell hr h.2.2.2
  have n0 : 0 < n := hr.n1
  have n10 := hr.n10
  have m64 := hr.m64
  have HL := Lib.hid hL
  have C2f : Hid (∀ W, Below w.heap.size w W → Calls Try.prog 14 #[.slice (some ⟨b0, o0, none⟩) n cap, .string p, .string q, .slice lo ln lc] W (MendNo 3 W)) := Lib.hid (fun W hb => pair_Mend_bad ss n _ cap p q ln lo lc W 3 (by omega) (checkLost_form ss n m _ cap p q lost ln lo lc W (h.below hb) hr (chk_right hr) (.inr ⟨hp, hs⟩) hp64 hq64))
  unfold MendNo at C2f
  have d1 : ((p.size : Int) == (s0.size : Int)) = true := by simp; omega
  have d1n : ((p.size : Int) != (s0.size : Int)) = false := by rw [bne, d1]; rfl
  have d2 : ((q.size : Int) == (s0.size : Int)) = false := by simp; omega
  have d2n : ((q.size : Int) != (s0.size : Int)) = true := by rw [bne, d2]; rfl
  have HS := Lib.hid hs
  clear hs
  clear hr h hz0 c1 c3 hL hp
  go_enter Try.func4, Try.ntmps4
  go_wp2_with fail
  (with_reducible refine C1.out.mono ?_)
  rintro e w1 ⟨rfl, hb1⟩
  have HB1 := Lib.hid hb1
  have C2 := Lib.hid (C2f.out w1 HB1.out)
  clear C2f hb1
  go_wp2_with fail
  (with_reducible refine C2.out.mono ?_)
  rintro e w2 ⟨rfl, hb2⟩
  have HB2 := Lib.hid (HB1.out.trans (hb2.mono HB1.out.size))
  clear hb2
  go_wp2_with fail
  (with_reducible refine (C3.out _ HB2.out).mono ?_)
  rintro e w3 ⟨rfl, hb3⟩
  have HB3 := Lib.hid (HB2.out.trans (hb3.mono HB2.out.size))
  clear hb3
  replace c0 := (HB3.out.cell (World.block_lt_of_cell? w _ c0)).trans c0
  go_wp2_with fail
  go_loop [16, 89] (fun vw vi => ∃ i : Nat, vi = .int .i64 i ∧ i ≤ ln ∧ vw = .int .i64 3) (fun _ vi => ln - (intOf vi).toNat)
  case atStart => exact ⟨0, rfl, by omega, rfl⟩
  case round =>
    obtain ⟨i, rfl, hi, rfl⟩ := hrel
    by_cases hil : i < ln
    · obtain ⟨a, ha⟩ : ∃ a, lost[i]? = some a := ⟨lost[i]'(by omega), List.getElem?_eq_getElem _⟩
      obtain ⟨lb, lof, rfl, lc0⟩ := lost_at (HL.out.below HB3.out) ha
      clear ha
      go_wp2_with fail
      go_round
      case rel => exact ⟨i + 1, by go_num, by omega, rfl⟩
      case measure => simp [intOf]; omega
    · obtain rfl : i = ln := by omega
      go_wp2_with fail
      go_ret
      exact ⟨rfl, HB3.out⟩
set_option maxRecDepth 100000 in
set_option maxHeartbeats 4000000 in
theorem pairSays_many (ss : List ByteArray) (n m : Nat) (ao : Option Addr) (cap : Nat) (p q : ByteArray) (lost : List Int) (ln : Nat) (lo : Option Addr) (lc : Nat) (w : World) (h : StrsIn w ao n ss) (hr : Right ss n m) (hp64 : p.size ≤ 9223372036854775807) (hq64 : q.size ≤ 9223372036854775807)
    (hp : p.size = m) (hq : q.size = m) (hl2 : 2 < ln) (d3 : decide ((2 : Int) < ln) = true) (hl : lost.length = ln) (hln : ln ≤ 9223372036854775807) (hL : Reads w lo ((lost : List Int).map (Value.int .i64))) :
    Calls Try.prog 4 #[.slice ao n cap, .string p, .string q, .slice lo ln lc] w (Yes w) := by
  obtain ⟨X, Y, c1, c3⟩ := put_both ss n m ao cap w h hr
  have C1 := Lib.hid c1
  have C3 := Lib.hid c3
  have H := Lib.hid h
  have HR := Lib.hid hr
  obtain ⟨b0, o0, s0, rfl, c0, hz0⟩ := head_cell hr h.2.2.2
  have n0 : 0 < n := hr.n1
  have n10 := hr.n10
  have m64 := hr.m64
  have HL := Lib.hid hL
  have C2f : Hid (∀ W, Below w.heap.size w W → Calls Try.prog 14 #[.slice (some ⟨b0, o0, none⟩) n cap, .string p, .string q, .slice lo ln lc] W (MendNo 9 W)) := Lib.hid (fun W hb => pair_Mend_bad ss n _ cap p q ln lo lc W 9 (by omega) (checkLost_many ss n m _ cap p q ln lo lc W (h.below hb) hr (chk_right hr) hp hq hl2 hln))
  unfold MendNo at C2f
  have d1 : ((p.size : Int) == (s0.size : Int)) = true := by simp; omega
  have d1n : ((p.size : Int) != (s0.size : Int)) = false := by rw [bne, d1]; rfl
  have d2 : ((q.size : Int) == (s0.size : Int)) = true := by simp; omega
  have d2n : ((q.size : Int) != (s0.size : Int)) = false := by rw [bne, d2]; rfl
  skip
  clear hr h hz0 c1 c3 hL hp hq
  go_enter Try.func4, Try.ntmps4
  go_wp2_with fail
  (with_reducible refine C1.out.mono ?_)
  rintro e w1 ⟨rfl, hb1⟩
  have HB1 := Lib.hid hb1
  have C2 := Lib.hid (C2f.out w1 HB1.out)
  clear C2f hb1
  go_wp2_with fail
  (with_reducible refine C2.out.mono ?_)
  rintro e w2 ⟨rfl, hb2⟩
  have HB2 := Lib.hid (HB1.out.trans (hb2.mono HB1.out.size))
  clear hb2
  go_wp2_with fail
  (with_reducible refine (C3.out _ HB2.out).mono ?_)
  rintro e w3 ⟨rfl, hb3⟩
  have HB3 := Lib.hid (HB2.out.trans (hb3.mono HB2.out.size))
  clear hb3
  replace c0 := (HB3.out.cell (World.block_lt_of_cell? w _ c0)).trans c0
  go_wp2_with fail
  go_loop [16, 89] (fun vw vi => ∃ i : Nat, vi = .int .i64 i ∧ i ≤ ln ∧ vw = .int .i64 9) (fun _ vi => ln - (intOf vi).toNat)
  case atStart => exact ⟨0, rfl, by omega, rfl⟩
  case round =>
    obtain ⟨i, rfl, hi, rfl⟩ := hrel
    by_cases hil : i < ln
    · obtain ⟨a, ha⟩ : ∃ a, lost[i]? = some a := ⟨lost[i]'(by omega), List.getElem?_eq_getElem _⟩
      obtain ⟨lb, lof, rfl, lc0⟩ := lost_at (HL.out.below HB3.out) ha
      clear ha
      go_wp2_with fail
      go_round
      case rel => exact ⟨i + 1, by go_num, by omega, rfl⟩
      case measure => simp [intOf]; omega
    · obtain rfl : i = ln := by omega
      go_wp2_with fail
      go_ret
      exact ⟨rfl, HB3.out⟩
set_option maxRecDepth 100000 in
set_option maxHeartbeats 4000000 in
theorem pairSays_one_a (ss : List ByteArray) (n m : Nat) (ao : Option Addr) (cap : Nat) (p q : ByteArray) (a : Int) (lo : Option Addr) (lc : Nat) (w : World) (h : StrsIn w ao n ss) (hr : Right ss n m) (hp64 : p.size ≤ 9223372036854775807) (hq64 : q.size ≤ 9223372036854775807)
    (hp : p.size = m) (hq : q.size = m) (a1 : decide (a < 0) = true) (hL : Reads w lo (([a] : List Int).map (Value.int .i64))) :
    Calls Try.prog 4 #[.slice ao n cap, .string p, .string q, .slice lo 1 lc] w (Yes w) := by
  obtain ⟨X, Y, c1, c3⟩ := put_both ss n m ao cap w h hr
  have C1 := Lib.hid c1
  have C3 := Lib.hid c3
  have H := Lib.hid h
  have HR := Lib.hid hr
  obtain ⟨b0, o0, s0, rfl, c0, hz0⟩ := head_cell hr h.2.2.2
  have n0 : 0 < n := hr.n1
  have n10 := hr.n10
  have m64 := hr.m64
  have HL := Lib.hid hL
  have C2f : Hid (∀ W, Below w.heap.size w W → Calls Try.prog 14 #[.slice (some ⟨b0, o0, none⟩) n cap, .string p, .string q, .slice lo 1 lc] W (MendNo 1 W)) := Lib.hid (fun W hb => pair_Mend_bad ss n _ cap p q 1 lo lc W 1 (by omega) (checkLost_one_a ss n m _ cap p q a lo lc W (h.below hb) hr (chk_right hr) hp hq a1 (hL.below hb)))
  unfold MendNo at C2f
  have d1 : ((p.size : Int) == (s0.size : Int)) = true := by simp; omega
  have d1n : ((p.size : Int) != (s0.size : Int)) = false := by rw [bne, d1]; rfl
  have d2 : ((q.size : Int) == (s0.size : Int)) = true := by simp; omega
  have d2n : ((q.size : Int) != (s0.size : Int)) = false := by rw [bne, d2]; rfl
  skip
  clear hr h hz0 c1 c3 hL hp hq
  go_enter Try.func4, Try.ntmps4
  go_wp2_with fail
  (with_reducible refine C1.out.mono ?_)
  rintro e w1 ⟨rfl, hb1⟩
  have HB1 := Lib.hid hb1
  have C2 := Lib.hid (C2f.out w1 HB1.out)
  clear C2f hb1
  go_wp2_with fail
  (with_reducible refine C2.out.mono ?_)
  rintro e w2 ⟨rfl, hb2⟩
  have HB2 := Lib.hid (HB1.out.trans (hb2.mono HB1.out.size))
  clear hb2
  go_wp2_with fail
  (with_reducible refine (C3.out _ HB2.out).mono ?_)
  rintro e w3 ⟨rfl, hb3⟩
  have HB3 := Lib.hid (HB2.out.trans (hb3.mono HB2.out.size))
  clear hb3
  replace c0 := (HB3.out.cell (World.block_lt_of_cell? w _ c0)).trans c0
  obtain ⟨lb, lof, rfl, lc0⟩ := lost_at (HL.out.below HB3.out) (i := 0) (a := a) rfl
  rw [Nat.add_zero] at lc0
  go_wp2_with fail
  refine wp_loop_rounds 2 ?_
  rw [rounds_succ]
  go_wp2_with fail
  rw [rounds_succ]
  go_wp2_with fail
  go_ret
  exact ⟨rfl, HB3.out⟩
set_option maxRecDepth 100000 in
set_option maxHeartbeats 4000000 in
theorem pairSays_one_b (ss : List ByteArray) (n m : Nat) (ao : Option Addr) (cap : Nat) (p q : ByteArray) (a : Int) (lo : Option Addr) (lc : Nat) (w : World) (h : StrsIn w ao n ss) (hr : Right ss n m) (hp64 : p.size ≤ 9223372036854775807) (hq64 : q.size ≤ 9223372036854775807)
    (hp : p.size = m) (hq : q.size = m) (a1 : decide (a < 0) = false) (a2 : decide ((n : Int) ≤ a) = true) (hL : Reads w lo (([a] : List Int).map (Value.int .i64))) :
    Calls Try.prog 4 #[.slice ao n cap, .string p, .string q, .slice lo 1 lc] w (Yes w) := by
  obtain ⟨X, Y, c1, c3⟩ := put_both ss n m ao cap w h hr
  have C1 := Lib.hid c1
  have C3 := Lib.hid c3
  have H := Lib.hid h
  have HR := Lib.hid hr
  obtain ⟨b0, o0, s0, rfl, c0, hz0⟩ := head_cell hr h.2.2.2
  have n0 : 0 < n := hr.n1
  have n10 := hr.n10
  have m64 := hr.m64
  have HL := Lib.hid hL
  have C2f : Hid (∀ W, Below w.heap.size w W → Calls Try.prog 14 #[.slice (some ⟨b0, o0, none⟩) n cap, .string p, .string q, .slice lo 1 lc] W (MendNo 1 W)) := Lib.hid (fun W hb => pair_Mend_bad ss n _ cap p q 1 lo lc W 1 (by omega) (checkLost_one_b ss n m _ cap p q a lo lc W (h.below hb) hr (chk_right hr) hp hq a1 a2 (hL.below hb)))
  unfold MendNo at C2f
  have d1 : ((p.size : Int) == (s0.size : Int)) = true := by simp; omega
  have d1n : ((p.size : Int) != (s0.size : Int)) = false := by rw [bne, d1]; rfl
  have d2 : ((q.size : Int) == (s0.size : Int)) = true := by simp; omega
  have d2n : ((q.size : Int) != (s0.size : Int)) = false := by rw [bne, d2]; rfl
  skip
  clear hr h hz0 c1 c3 hL hp hq
  go_enter Try.func4, Try.ntmps4
  go_wp2_with fail
  (with_reducible refine C1.out.mono ?_)
  rintro e w1 ⟨rfl, hb1⟩
  have HB1 := Lib.hid hb1
  have C2 := Lib.hid (C2f.out w1 HB1.out)
  clear C2f hb1
  go_wp2_with fail
  (with_reducible refine C2.out.mono ?_)
  rintro e w2 ⟨rfl, hb2⟩
  have HB2 := Lib.hid (HB1.out.trans (hb2.mono HB1.out.size))
  clear hb2
  go_wp2_with fail
  (with_reducible refine (C3.out _ HB2.out).mono ?_)
  rintro e w3 ⟨rfl, hb3⟩
  have HB3 := Lib.hid (HB2.out.trans (hb3.mono HB2.out.size))
  clear hb3
  replace c0 := (HB3.out.cell (World.block_lt_of_cell? w _ c0)).trans c0
  obtain ⟨lb, lof, rfl, lc0⟩ := lost_at (HL.out.below HB3.out) (i := 0) (a := a) rfl
  rw [Nat.add_zero] at lc0
  go_wp2_with fail
  refine wp_loop_rounds 2 ?_
  rw [rounds_succ]
  go_wp2_with fail
  rw [rounds_succ]
  go_wp2_with fail
  go_ret
  exact ⟨rfl, HB3.out⟩
set_option maxRecDepth 100000 in
set_option maxHeartbeats 4000000 in
theorem pairSays_two_a (ss : List ByteArray) (n m : Nat) (ao : Option Addr) (cap : Nat) (p q : ByteArray) (a b : Int) (lo : Option Addr) (lc : Nat) (w : World) (h : StrsIn w ao n ss) (hr : Right ss n m) (hp64 : p.size ≤ 9223372036854775807) (hq64 : q.size ≤ 9223372036854775807)
    (hp : p.size = m) (hq : q.size = m) (a1 : decide (a < 0) = true) (hL : Reads w lo (([a, b] : List Int).map (Value.int .i64))) :
    Calls Try.prog 4 #[.slice ao n cap, .string p, .string q, .slice lo 2 lc] w (Yes w) := by
  obtain ⟨X, Y, c1, c3⟩ := put_both ss n m ao cap w h hr
  have C1 := Lib.hid c1
  have C3 := Lib.hid c3
  have H := Lib.hid h
  have HR := Lib.hid hr
  obtain ⟨b0, o0, s0, rfl, c0, hz0⟩ := head_cell hr h.2.2.2
  have n0 : 0 < n := hr.n1
  have n10 := hr.n10
  have m64 := hr.m64
  have HL := Lib.hid hL
  have C2f : Hid (∀ W, Below w.heap.size w W → Calls Try.prog 14 #[.slice (some ⟨b0, o0, none⟩) n cap, .string p, .string q, .slice lo 2 lc] W (MendNo 1 W)) := Lib.hid (fun W hb => pair_Mend_bad ss n _ cap p q 2 lo lc W 1 (by omega) (checkLost_two_a ss n m _ cap p q a b lo lc W (h.below hb) hr (chk_right hr) hp hq a1 (hL.below hb)))
  unfold MendNo at C2f
  have d1 : ((p.size : Int) == (s0.size : Int)) = true := by simp; omega
  have d1n : ((p.size : Int) != (s0.size : Int)) = false := by rw [bne, d1]; rfl
  have d2 : ((q.size : Int) == (s0.size : Int)) = true := by simp; omega
  have d2n : ((q.size : Int) != (s0.size : Int)) = false := by rw [bne, d2]; rfl
  skip
  clear hr h hz0 c1 c3 hL hp hq
  go_enter Try.func4, Try.ntmps4
  go_wp2_with fail
  (with_reducible refine C1.out.mono ?_)
  rintro e w1 ⟨rfl, hb1⟩
  have HB1 := Lib.hid hb1
  have C2 := Lib.hid (C2f.out w1 HB1.out)
  clear C2f hb1
  go_wp2_with fail
  (with_reducible refine C2.out.mono ?_)
  rintro e w2 ⟨rfl, hb2⟩
  have HB2 := Lib.hid (HB1.out.trans (hb2.mono HB1.out.size))
  clear hb2
  go_wp2_with fail
  (with_reducible refine (C3.out _ HB2.out).mono ?_)
  rintro e w3 ⟨rfl, hb3⟩
  have HB3 := Lib.hid (HB2.out.trans (hb3.mono HB2.out.size))
  clear hb3
  replace c0 := (HB3.out.cell (World.block_lt_of_cell? w _ c0)).trans c0
  obtain ⟨lb, lof, rfl, lc0⟩ := lost_at (HL.out.below HB3.out) (i := 0) (a := a) rfl
  rw [Nat.add_zero] at lc0
  obtain ⟨lb1, lof1, hla, lc1⟩ := lost_at (HL.out.below HB3.out) (i := 1) (a := b) rfl
  cases hla
  go_wp2_with fail
  refine wp_loop_rounds 3 ?_
  rw [rounds_succ]
  go_wp2_with fail
  rw [rounds_succ]
  go_wp2_with fail
  rw [rounds_succ]
  go_wp2_with fail
  go_ret
  exact ⟨rfl, HB3.out⟩
set_option maxRecDepth 100000 in
set_option maxHeartbeats 4000000 in
theorem pairSays_two_b (ss : List ByteArray) (n m : Nat) (ao : Option Addr) (cap : Nat) (p q : ByteArray) (a b : Int) (lo : Option Addr) (lc : Nat) (w : World) (h : StrsIn w ao n ss) (hr : Right ss n m) (hp64 : p.size ≤ 9223372036854775807) (hq64 : q.size ≤ 9223372036854775807)
    (hp : p.size = m) (hq : q.size = m) (a1 : decide (a < 0) = false) (a2 : decide ((n : Int) ≤ a) = true) (hL : Reads w lo (([a, b] : List Int).map (Value.int .i64))) :
    Calls Try.prog 4 #[.slice ao n cap, .string p, .string q, .slice lo 2 lc] w (Yes w) := by
  obtain ⟨X, Y, c1, c3⟩ := put_both ss n m ao cap w h hr
  have C1 := Lib.hid c1
  have C3 := Lib.hid c3
  have H := Lib.hid h
  have HR := Lib.hid hr
  obtain ⟨b0, o0, s0, rfl, c0, hz0⟩ := head_cell hr h.2.2.2
  have n0 : 0 < n := hr.n1
  have n10 := hr.n10
  have m64 := hr.m64
  have HL := Lib.hid hL
  have C2f : Hid (∀ W, Below w.heap.size w W → Calls Try.prog 14 #[.slice (some ⟨b0, o0, none⟩) n cap, .string p, .string q, .slice lo 2 lc] W (MendNo 1 W)) := Lib.hid (fun W hb => pair_Mend_bad ss n _ cap p q 2 lo lc W 1 (by omega) (checkLost_two_b ss n m _ cap p q a b lo lc W (h.below hb) hr (chk_right hr) hp hq a1 a2 (hL.below hb)))
  unfold MendNo at C2f
  have d1 : ((p.size : Int) == (s0.size : Int)) = true := by simp; omega
  have d1n : ((p.size : Int) != (s0.size : Int)) = false := by rw [bne, d1]; rfl
  have d2 : ((q.size : Int) == (s0.size : Int)) = true := by simp; omega
  have d2n : ((q.size : Int) != (s0.size : Int)) = false := by rw [bne, d2]; rfl
  skip
  clear hr h hz0 c1 c3 hL hp hq
  go_enter Try.func4, Try.ntmps4
  go_wp2_with fail
  (with_reducible refine C1.out.mono ?_)
  rintro e w1 ⟨rfl, hb1⟩
  have HB1 := Lib.hid hb1
  have C2 := Lib.hid (C2f.out w1 HB1.out)
  clear C2f hb1
  go_wp2_with fail
  (with_reducible refine C2.out.mono ?_)
  rintro e w2 ⟨rfl, hb2⟩
  have HB2 := Lib.hid (HB1.out.trans (hb2.mono HB1.out.size))
  clear hb2
  go_wp2_with fail
  (with_reducible refine (C3.out _ HB2.out).mono ?_)
  rintro e w3 ⟨rfl, hb3⟩
  have HB3 := Lib.hid (HB2.out.trans (hb3.mono HB2.out.size))
  clear hb3
  replace c0 := (HB3.out.cell (World.block_lt_of_cell? w _ c0)).trans c0
  obtain ⟨lb, lof, rfl, lc0⟩ := lost_at (HL.out.below HB3.out) (i := 0) (a := a) rfl
  rw [Nat.add_zero] at lc0
  obtain ⟨lb1, lof1, hla, lc1⟩ := lost_at (HL.out.below HB3.out) (i := 1) (a := b) rfl
  cases hla
  go_wp2_with fail
  refine wp_loop_rounds 3 ?_
  rw [rounds_succ]
  go_wp2_with fail
  rw [rounds_succ]
  go_wp2_with fail
  rw [rounds_succ]
  go_wp2_with fail
  go_ret
  exact ⟨rfl, HB3.out⟩
set_option maxRecDepth 100000 in
set_option maxHeartbeats 4000000 in
theorem pairSays_two_c (ss : List ByteArray) (n m : Nat) (ao : Option Addr) (cap : Nat) (p q : ByteArray) (a b : Int) (lo : Option Addr) (lc : Nat) (w : World) (h : StrsIn w ao n ss) (hr : Right ss n m) (hp64 : p.size ≤ 9223372036854775807) (hq64 : q.size ≤ 9223372036854775807)
    (hp : p.size = m) (hq : q.size = m) (a1 : decide (a < 0) = false) (a2 : decide ((n : Int) ≤ a) = false) (b1 : decide (b < 0) = true) (hL : Reads w lo (([a, b] : List Int).map (Value.int .i64))) :
    Calls Try.prog 4 #[.slice ao n cap, .string p, .string q, .slice lo 2 lc] w (Yes w) := by
  obtain ⟨X, Y, c1, c3⟩ := put_both ss n m ao cap w h hr
  have C1 := Lib.hid c1
  have C3 := Lib.hid c3
  have H := Lib.hid h
  have HR := Lib.hid hr
  obtain ⟨b0, o0, s0, rfl, c0, hz0⟩ := head_cell hr h.2.2.2
  have n0 : 0 < n := hr.n1
  have n10 := hr.n10
  have m64 := hr.m64
  have HL := Lib.hid hL
  have C2f : Hid (∀ W, Below w.heap.size w W → Calls Try.prog 14 #[.slice (some ⟨b0, o0, none⟩) n cap, .string p, .string q, .slice lo 2 lc] W (MendNo 1 W)) := Lib.hid (fun W hb => pair_Mend_bad ss n _ cap p q 2 lo lc W 1 (by omega) (checkLost_two_c ss n m _ cap p q a b lo lc W (h.below hb) hr (chk_right hr) hp hq a1 a2 b1 (hL.below hb)))
  unfold MendNo at C2f
  have d1 : ((p.size : Int) == (s0.size : Int)) = true := by simp; omega
  have d1n : ((p.size : Int) != (s0.size : Int)) = false := by rw [bne, d1]; rfl
  have d2 : ((q.size : Int) == (s0.size : Int)) = true := by simp; omega
  have d2n : ((q.size : Int) != (s0.size : Int)) = false := by rw [bne, d2]; rfl
  skip
  clear hr h hz0 c1 c3 hL hp hq
  go_enter Try.func4, Try.ntmps4
  go_wp2_with fail
  (with_reducible refine C1.out.mono ?_)
  rintro e w1 ⟨rfl, hb1⟩
  have HB1 := Lib.hid hb1
  have C2 := Lib.hid (C2f.out w1 HB1.out)
  clear C2f hb1
  go_wp2_with fail
  (with_reducible refine C2.out.mono ?_)
  rintro e w2 ⟨rfl, hb2⟩
  have HB2 := Lib.hid (HB1.out.trans (hb2.mono HB1.out.size))
  clear hb2
  go_wp2_with fail
  (with_reducible refine (C3.out _ HB2.out).mono ?_)
  rintro e w3 ⟨rfl, hb3⟩
  have HB3 := Lib.hid (HB2.out.trans (hb3.mono HB2.out.size))
  clear hb3
  replace c0 := (HB3.out.cell (World.block_lt_of_cell? w _ c0)).trans c0
  obtain ⟨lb, lof, rfl, lc0⟩ := lost_at (HL.out.below HB3.out) (i := 0) (a := a) rfl
  rw [Nat.add_zero] at lc0
  obtain ⟨lb1, lof1, hla, lc1⟩ := lost_at (HL.out.below HB3.out) (i := 1) (a := b) rfl
  cases hla
  go_wp2_with fail
  refine wp_loop_rounds 3 ?_
  rw [rounds_succ]
  go_wp2_with fail
  rw [rounds_succ]
  go_wp2_with fail
  rw [rounds_succ]
  go_wp2_with fail
  go_ret
  exact ⟨rfl, HB3.out⟩
set_option maxRecDepth 100000 in
set_option maxHeartbeats 4000000 in
theorem pairSays_two_d (ss : List ByteArray) (n m : Nat) (ao : Option Addr) (cap : Nat) (p q : ByteArray) (a b : Int) (lo : Option Addr) (lc : Nat) (w : World) (h : StrsIn w ao n ss) (hr : Right ss n m) (hp64 : p.size ≤ 9223372036854775807) (hq64 : q.size ≤ 9223372036854775807)
    (hp : p.size = m) (hq : q.size = m) (a1 : decide (a < 0) = false) (a2 : decide ((n : Int) ≤ a) = false) (b1 : decide (b < 0) = false) (b2 : decide ((n : Int) ≤ b) = true) (hL : Reads w lo (([a, b] : List Int).map (Value.int .i64))) :
    Calls Try.prog 4 #[.slice ao n cap, .string p, .string q, .slice lo 2 lc] w (Yes w) := by
  obtain ⟨X, Y, c1, c3⟩ := put_both ss n m ao cap w h hr
  have C1 := Lib.hid c1
  have C3 := Lib.hid c3
  have H := Lib.hid h
  have HR := Lib.hid hr
  obtain ⟨b0, o0, s0, rfl, c0, hz0⟩ := head_cell hr h.2.2.2
  have n0 : 0 < n := hr.n1
  have n10 := hr.n10
  have m64 := hr.m64
  have HL := Lib.hid hL
  have C2f : Hid (∀ W, Below w.heap.size w W → Calls Try.prog 14 #[.slice (some ⟨b0, o0, none⟩) n cap, .string p, .string q, .slice lo 2 lc] W (MendNo 1 W)) := Lib.hid (fun W hb => pair_Mend_bad ss n _ cap p q 2 lo lc W 1 (by omega) (checkLost_two_d ss n m _ cap p q a b lo lc W (h.below hb) hr (chk_right hr) hp hq a1 a2 b1 b2 (hL.below hb)))
  unfold MendNo at C2f
  have d1 : ((p.size : Int) == (s0.size : Int)) = true := by simp; omega
  have d1n : ((p.size : Int) != (s0.size : Int)) = false := by rw [bne, d1]; rfl
  have d2 : ((q.size : Int) == (s0.size : Int)) = true := by simp; omega
  have d2n : ((q.size : Int) != (s0.size : Int)) = false := by rw [bne, d2]; rfl
  skip
  clear hr h hz0 c1 c3 hL hp hq
  go_enter Try.func4, Try.ntmps4
  go_wp2_with fail
  (with_reducible refine C1.out.mono ?_)
  rintro e w1 ⟨rfl, hb1⟩
  have HB1 := Lib.hid hb1
  have C2 := Lib.hid (C2f.out w1 HB1.out)
  clear C2f hb1
  go_wp2_with fail
  (with_reducible refine C2.out.mono ?_)
  rintro e w2 ⟨rfl, hb2⟩
  have HB2 := Lib.hid (HB1.out.trans (hb2.mono HB1.out.size))
  clear hb2
  go_wp2_with fail
  (with_reducible refine (C3.out _ HB2.out).mono ?_)
  rintro e w3 ⟨rfl, hb3⟩
  have HB3 := Lib.hid (HB2.out.trans (hb3.mono HB2.out.size))
  clear hb3
  replace c0 := (HB3.out.cell (World.block_lt_of_cell? w _ c0)).trans c0
  obtain ⟨lb, lof, rfl, lc0⟩ := lost_at (HL.out.below HB3.out) (i := 0) (a := a) rfl
  rw [Nat.add_zero] at lc0
  obtain ⟨lb1, lof1, hla, lc1⟩ := lost_at (HL.out.below HB3.out) (i := 1) (a := b) rfl
  cases hla
  go_wp2_with fail
  refine wp_loop_rounds 3 ?_
  rw [rounds_succ]
  go_wp2_with fail
  rw [rounds_succ]
  go_wp2_with fail
  rw [rounds_succ]
  go_wp2_with fail
  go_ret
  exact ⟨rfl, HB3.out⟩
set_option maxRecDepth 100000 in
set_option maxHeartbeats 4000000 in
theorem pairSays_two_e (ss : List ByteArray) (n m : Nat) (ao : Option Addr) (cap : Nat) (p q : ByteArray) (a b : Int) (lo : Option Addr) (lc : Nat) (w : World) (h : StrsIn w ao n ss) (hr : Right ss n m) (hp64 : p.size ≤ 9223372036854775807) (hq64 : q.size ≤ 9223372036854775807)
    (hp : p.size = m) (hq : q.size = m) (a1 : decide (a < 0) = false) (a2 : decide ((n : Int) ≤ a) = false) (b1 : decide (b < 0) = false) (b2 : decide ((n : Int) ≤ b) = false) (ab : (b == a) = true) (hL : Reads w lo (([a, b] : List Int).map (Value.int .i64))) :
    Calls Try.prog 4 #[.slice ao n cap, .string p, .string q, .slice lo 2 lc] w (Yes w) := by
  obtain ⟨X, Y, c1, c3⟩ := put_both ss n m ao cap w h hr
  have C1 := Lib.hid c1
  have C3 := Lib.hid c3
  have H := Lib.hid h
  have HR := Lib.hid hr
  obtain ⟨b0, o0, s0, rfl, c0, hz0⟩ := head_cell hr h.2.2.2
  have n0 : 0 < n := hr.n1
  have n10 := hr.n10
  have m64 := hr.m64
  have HL := Lib.hid hL
  have C2f : Hid (∀ W, Below w.heap.size w W → Calls Try.prog 14 #[.slice (some ⟨b0, o0, none⟩) n cap, .string p, .string q, .slice lo 2 lc] W (MendNo 6 W)) := Lib.hid (fun W hb => pair_Mend_bad ss n _ cap p q 2 lo lc W 6 (by omega) (checkLost_two_e ss n m _ cap p q a b lo lc W (h.below hb) hr (chk_right hr) hp hq a1 a2 b1 b2 ab (hL.below hb)))
  unfold MendNo at C2f
  have d1 : ((p.size : Int) == (s0.size : Int)) = true := by simp; omega
  have d1n : ((p.size : Int) != (s0.size : Int)) = false := by rw [bne, d1]; rfl
  have d2 : ((q.size : Int) == (s0.size : Int)) = true := by simp; omega
  have d2n : ((q.size : Int) != (s0.size : Int)) = false := by rw [bne, d2]; rfl
  skip
  clear hr h hz0 c1 c3 hL hp hq
  go_enter Try.func4, Try.ntmps4
  go_wp2_with fail
  (with_reducible refine C1.out.mono ?_)
  rintro e w1 ⟨rfl, hb1⟩
  have HB1 := Lib.hid hb1
  have C2 := Lib.hid (C2f.out w1 HB1.out)
  clear C2f hb1
  go_wp2_with fail
  (with_reducible refine C2.out.mono ?_)
  rintro e w2 ⟨rfl, hb2⟩
  have HB2 := Lib.hid (HB1.out.trans (hb2.mono HB1.out.size))
  clear hb2
  go_wp2_with fail
  (with_reducible refine (C3.out _ HB2.out).mono ?_)
  rintro e w3 ⟨rfl, hb3⟩
  have HB3 := Lib.hid (HB2.out.trans (hb3.mono HB2.out.size))
  clear hb3
  replace c0 := (HB3.out.cell (World.block_lt_of_cell? w _ c0)).trans c0
  obtain ⟨lb, lof, rfl, lc0⟩ := lost_at (HL.out.below HB3.out) (i := 0) (a := a) rfl
  rw [Nat.add_zero] at lc0
  obtain ⟨lb1, lof1, hla, lc1⟩ := lost_at (HL.out.below HB3.out) (i := 1) (a := b) rfl
  cases hla
  go_wp2_with fail
  refine wp_loop_rounds 3 ?_
  rw [rounds_succ]
  go_wp2_with fail
  rw [rounds_succ]
  go_wp2_with fail
  rw [rounds_succ]
  go_wp2_with fail
  go_ret
  exact ⟨rfl, HB3.out⟩
/-- What the law looks at where Mend has mended. -/
structure Good (ss : List ByteArray) (n m : Nat) (p q : ByteArray) (lost : List Int) (F : Nat → ByteArray) : Prop where
  right : Right (listOf n F) n m
  p : bytesOf m (fun k => xorN n (colP (listOf n F) k)) = p
  q : bytesOf m (fun k => xorN n (wtd (colP (listOf n F) k))) = q
  keep : ∀ j, j < n → (j : Int) ∉ lost → F j = sAt ss j
/-- The last loop's call of PairOf, at what Mend has handed back. -/
theorem Good.pairOf {ss : List ByteArray} {n m : Nat} {p q : ByteArray} {lost : List Int} {F : Nat → ByteArray} (h : Good ss n m p q lost F) (ao : Option Addr) (cap : Nat) (W : World) (hR : Reads W ao (rowF n fun j => .string (F j))) :
    Calls Try.prog 15 #[.slice ao n cap] W (fun e w' => e = .returned (.tuple #[.string p, .string q, .int .i64 0]) ∧ Below W.heap.size W w') := by
  have := ref_PairOf (listOf n F) n m ao cap W h.right (Lib.hid (by rw [listOf_row]; exact hR))
  unfold PutPost at this
  rwa [h.p, h.q] at this

theorem good0 (ss : List ByteArray) (n m : Nat) (p q : ByteArray) (hr : Right ss n m) (hp : p.size = m) (hq : q.size = m) (hc : ∀ k, k < m → cond0 ss n p q k) : Good ss n m p q [] (sAt ss) := by
  have hl : ∀ k i, i < n → colP (listOf n (sAt ss)) k i = colP ss k i := fun k i hi => by unfold colP; rw [listOf_at _ hi]
  have hc2 := (cond0_iff hp hq).1 hc
  refine ⟨listOf_right hr.n1 hr.n10 hr.m64 hr.all, ?_, ?_, fun _ _ _ => rfl⟩
  · rw [← hc2.1]; exact bytesOf_congr fun k _ => xorN_congr fun i hi => hl k i hi
  · rw [← hc2.2]; exact bytesOf_congr fun k _ => xorN_congr fun i hi => by unfold wtd; rw [hl k i hi]
theorem good1 (ss : List ByteArray) (n m : Nat) (p q : ByteArray) (g : Nat) (hg : g < n) (hr : Right ss n m) (hp : p.size = m) (hq : q.size = m) (hc : ∀ k, k < m → cond1 ss n p q g k) : Good ss n m p q [(g : Int)] (one1 ss n m p g) := by
  refine ⟨listOf_right hr.n1 hr.n10 hr.m64 fun j hj => ?_, ?_, ?_, fun j _ hj => ?_⟩
  · unfold one1
    split
    · exact bytesOf_size _ _
    · exact hr.all j hj
  · rw [bytesOf_eq hp (fun k _ => sum_lt _ _ _)]
    intro k hk
    unfold one1
    rw [put_sum hr.len hg hk (mA_lt _ _ _ _ _)]
    unfold mA
    rw [← Nat.xor_assoc, Nat.xor_self, Nat.zero_xor]
  · rw [bytesOf_eq hq (fun k _ => wsum_lt _ _ _)]
    intro k hk
    unfold one1
    have h := hc k hk
    unfold cond1 at h
    rw [put_wsum hr.len hg hk (mA_lt _ _ _ _ _), h]
    unfold mB
    rw [← Nat.xor_assoc, Nat.xor_self, Nat.zero_xor]
  · unfold one1
    rw [if_neg (by intro e; apply hj; simp [e])]
theorem good2 (ss : List ByteArray) (n m : Nat) (p q : ByteArray) (g h : Nat) (hg : g < n) (hh : h < n) (hgh : g ≠ h) (hr : Right ss n m) (hp : p.size = m) (hq : q.size = m) : Good ss n m p q [(g : Int), (h : Int)] (two2 ss n m p q g h) := by
  have h10 := hr.n10
  have col : ∀ k, k < m → ∀ i, i < n → colP (listOf n (two2 ss n m p q g h)) k i = put1 (put1 (colP ss k) g (solU ss n p q g h k)) h (solV ss n p q g h k) i := fun k hk i hi => by
    unfold colP put1
    rw [listOf_at _ hi]
    unfold two2
    split
    · exact bytesOf_get hk (solV_lt _ _ _ _ _ _ _)
    · split
      · exact bytesOf_get hk (solU_lt _ _ _ _ _ _ _)
      · rfl
  refine ⟨listOf_right hr.n1 hr.n10 hr.m64 fun j hj => ?_, ?_, ?_, fun j _ hj => ?_⟩
  · unfold two2
    split
    · exact bytesOf_size _ _
    · split
      · exact bytesOf_size _ _
      · exact hr.all j hj
  · rw [bytesOf_eq hp (fun k _ => sum_lt _ _ _)]
    intro k hk
    rw [xorN_congr (col k hk), put2_sum _ _ _ hg hh hgh]
    unfold solV
    rw [Nat.xor_assoc, ← Nat.xor_assoc (solU ss n p q g h k), Nat.xor_comm (solU ss n p q g h k), Nat.xor_assoc (mA ss n p _ k), Nat.xor_self, Nat.xor_zero]
    unfold mA
    rw [← Nat.xor_assoc, Nat.xor_self, Nat.zero_xor]
  · rw [bytesOf_eq hq (fun k _ => wsum_lt _ _ _)]
    intro k hk
    have e : xorN n (wtd (colP (listOf n (two2 ss n m p q g h)) k)) = xorN n (wtd (put1 (put1 (colP ss k) g (solU ss n p q g h k)) h (solV ss n p q g h k))) := xorN_congr fun i hi => by unfold wtd; rw [col k hk i hi]
    rw [e, wtd_put1, wtd_put1, put2_sum _ _ _ hg hh hgh]
    have s := two_solve (a := mA ss n p [(g : Int), (h : Int)] k) (b := mB ss n q [(g : Int), (h : Int)] k) (mA_lt _ _ _ _ _) (mB_lt _ _ _ _ _) (gpow_lt g) (gpow_lt h) (wt_ne ⟨g, by omega⟩ ⟨h, by omega⟩ (fun e => hgh (by simpa using e)))
    have s2 : gmul (solU ss n p q g h k) (gpow 2 g) ^^^ gmul (solV ss n p q g h k) (gpow 2 h) = mB ss n q [(g : Int), (h : Int)] k := s
    rw [Nat.xor_assoc, s2]
    unfold mB
    rw [← Nat.xor_assoc, Nat.xor_self, Nat.zero_xor]
  · unfold two2
    rw [if_neg (by intro e; apply hj; simp [e]), if_neg (by intro e; apply hj; simp [e])]
set_option maxRecDepth 100000 in
set_option maxHeartbeats 8000000 in
theorem pairSays_0 (ss : List ByteArray) (n m : Nat) (ao : Option Addr) (cap : Nat) (p q : ByteArray)  (lo : Option Addr) (lc : Nat) (w : World) (h : StrsIn w ao n ss) (hr : Right ss n m) (hp : p.size = m) (hq : q.size = m)
    (hL : Reads w lo (([] : List Int).map (Value.int .i64))) :
    Calls Try.prog 4 #[.slice ao n cap, .string p, .string q, .slice lo 0 lc] w (Yes w) := by
  obtain ⟨X, Y, c1, c3⟩ := put_both ss n m ao cap w h hr
  have C1 := Lib.hid c1
  have C3 := Lib.hid c3
  have H := Lib.hid h
  have HR := Lib.hid hr
  obtain ⟨b0, o0, s0, rfl, c0, hz0⟩ := head_cell hr h.2.2.2
  have n0 : 0 < n := hr.n1
  have n10 := hr.n10
  have m64 := hr.m64
  have HL := Lib.hid hL
  have hss : Hid (ss.length = n) := Lib.hid hr.len
  have C2f : Hid (∀ W, Below w.heap.size w W → Calls Try.prog 14 #[.slice (some ⟨b0, o0, none⟩) n cap, .string p, .string q, .slice lo 0 lc] W (MendP (cond0 ss n p q) (sAt ss) m n W)) := Lib.hid (fun W hb => pair_Mend0 ss n m _ cap p q lo lc W (h.below hb) hr hp hq (hL.below hb) (by exact checkLost_nil ss n m _ cap p q lo lc W (h.below hb) hr (chk_right hr) hp hq))
  have HG : Hid (∀ _ : (∀ k, k < m → cond0 ss n p q k), Good ss n m p q [] (sAt ss)) := Lib.hid (fun hc => good0 ss n m p q hr hp hq hc)
  have CMD : Hid (∀ W, Below w.heap.size w W → (¬ ∀ k, k < m → cond0 ss n p q k) → Calls Try.prog 17 #[.slice (some ⟨b0, o0, none⟩) n cap, .string p, .string q, .slice lo 0 lc] W (BoolB false W)) := Lib.hid (fun W hb hn => mendable0 ss n m _ cap p q lo lc W (h.below hb) hr hp hq hn)
  unfold BoolB at CMD
  have d1 : ((p.size : Int) == (s0.size : Int)) = true := by simp; omega
  have d1n : ((p.size : Int) != (s0.size : Int)) = false := by rw [bne, d1]; rfl
  have d2 : ((q.size : Int) == (s0.size : Int)) = true := by simp; omega
  have d2n : ((q.size : Int) != (s0.size : Int)) = false := by rw [bne, d2]; rfl
  have HP := Lib.hid hp
  have HQ := Lib.hid hq
  clear hr h hz0 c1 c3 hL hp hq
  go_enter Try.func4, Try.ntmps4
  go_wp2_with fail
  (with_reducible refine C1.out.mono ?_)
  rintro e w1 ⟨rfl, hb1⟩
  have HB1 := Lib.hid hb1
  have C2 := Lib.hid (C2f.out w1 HB1.out)
  clear C2f hb1
  go_wp2_with fail
  (with_reducible refine C2.out.mono ?_)
  rintro e w2 (⟨hcc, gl, rfl, hRL, hb2⟩ | ⟨hnc, rfl, hb2⟩)
  · have HCC := Lib.hid hcc
    have hRL2 := Lib.hid hRL
    clear hcc hRL
    have HB2 := Lib.hid (HB1.out.trans (hb2.mono HB1.out.size))
    clear hb2
    go_wp2_with fail
    (with_reducible refine (C3.out _ HB2.out).mono ?_)
    rintro e w3 ⟨rfl, hb3⟩
    have HB3 := Lib.hid (HB2.out.trans (hb3.mono HB2.out.size))
    have HB23 := Lib.hid hb3
    have HBw := Lib.hid (HB2.out.size)
    clear hb3
    have c0' := (HB3.out.cell (World.block_lt_of_cell? w _ c0)).trans c0
    go_wp2_with fail
    refine wp_loop_rounds 1 ?_
    rw [rounds_succ]
    go_wp2_with fail
    have HGG := Lib.hid (HG.out HCC.out)
    have HR3 := Lib.hid (hRL2.out.below HB23.out)
    clear hRL2
    go_wp2_with fail
    (with_reducible refine (HGG.out.pairOf _ _ _ HR3.out).mono ?_)
    rintro e w4 ⟨rfl, hb4⟩
    have HB4 := Lib.hid (HB3.out.trans (hb4.mono HB3.out.size))
    have HR4 := Lib.hid (HR3.out.below hb4)
    clear hb4 HR3
    go_wp2_with fail
    go_loopw [159] (fun vi wr => ∃ k : Nat, vi = .int .i64 k ∧ k ≤ n ∧ Hid (Below w.heap.size w wr) ∧ Hid (Reads wr (some ⟨gl, 0, none⟩) (rowF n fun j => .string (sAt ss j)))) (fun vi _ => n - (intOf vi).toNat)
    case atStart => exact ⟨0, rfl, by omega, HB4, HR4⟩
    case round =>
      clear HB4 HR4
      obtain ⟨k, rfl, hk, HB, HRL⟩ := hrel
      obtain ⟨wo, rfl⟩ : ∃ wo, wo = wr := ⟨_, rfl⟩
      by_cases hkn : k < n
      · obtain ⟨bl, ol, ha, x1⟩ := HRL.out k _ (rowF_get _ hkn)
        cases ha
        rw [Nat.zero_add] at x1
        obtain ⟨bb, ob, ha2, x2⟩ := (H.out.2.2.2.below HB.out) k _ (str_at (by have := hss.out; omega))
        cases ha2
        have keep := HGG.out.keep k hkn
        obtain ⟨S1, hS1⟩ : ∃ S, sAt ss k = S := ⟨_, rfl⟩
        obtain ⟨S2, hS2⟩ : ∃ S, sAt ss k = S := ⟨_, rfl⟩
        rw [hS1] at x1
        rw [hS2] at x2
        replace keep : (k : Int) ∉ [] → S1 = S2 := fun hh => hS1.symm.trans ((keep hh).trans hS2)
        have i0 : (0 : Int) ≤ (k : Int) := by omega
        have i1 : (k : Int) < (n : Int) := by omega
        clear hS1 hS2
        by_cases hmem : (k : Int) ∈ []
        · by_cases heq : S1 = S2
          · have t1 := str_eq heq
            have t2 : (S1.toList != S2.toList) = false := by rw [bne, t1]; rfl
            clear heq keep hmem
            go_wp2_with fail
            go_quiet (fail)
            go_wp2_with fail
            go_roundw
            case rel => exact ⟨k + 1, by go_num, by omega, Lib.hid (below_drewN HB.out _), Lib.hid (HRL.out.below (below_dr _ _ _))⟩
            case measure => simp [intOf]; omega
          · have t1 := str_ne heq
            have t2 : (S1.toList != S2.toList) = true := by rw [bne, t1]; rfl
            have CC := Lib.hid (fun q => contains_i64 (k : Int) [] 0 lo lc (wo.drewN q) rfl (by omega) (Lib.hid (HL.out.below (below_drewN HB.out q))))
            rw [decide_eq_true hmem] at CC
            clear heq keep hmem
            go_wp2_with fail
            go_quiet ((go_at_call 16; exact Calls.quiet_of (CC.out _)))
            go_wp2_with fail
            go_roundw
            case rel => exact ⟨k + 1, by go_num, by omega, Lib.hid (below_drewN HB.out _), Lib.hid (HRL.out.below (below_dr _ _ _))⟩
            case measure => simp [intOf]; omega
        · have t1 := str_eq (keep hmem)
          have t2 : (S1.toList != S2.toList) = false := by rw [bne, t1]; rfl
          clear keep hmem
          go_wp2_with fail
          go_quiet (fail)
          go_wp2_with fail
          go_roundw
          case rel => exact ⟨k + 1, by go_num, by omega, Lib.hid (below_drewN HB.out _), Lib.hid (HRL.out.below (below_dr _ _ _))⟩
          case measure => simp [intOf]; omega
      · obtain rfl : k = n := by omega
        go_wp2_with fail
        go_ret
        exact ⟨rfl, HB.out⟩
  · have HNC := Lib.hid hnc
    clear hnc
    have HB2 := Lib.hid (HB1.out.trans (hb2.mono HB1.out.size))
    clear hb2
    go_wp2_with fail
    (with_reducible refine (C3.out _ HB2.out).mono ?_)
    rintro e w3 ⟨rfl, hb3⟩
    have HB3 := Lib.hid (HB2.out.trans (hb3.mono HB2.out.size))
    have HB23 := Lib.hid hb3
    have HBw := Lib.hid (HB2.out.size)
    clear hb3
    have c0' := (HB3.out.cell (World.block_lt_of_cell? w _ c0)).trans c0
    go_wp2_with fail
    refine wp_loop_rounds 1 ?_
    rw [rounds_succ]
    go_wp2_with fail
    go_wp2_with fail
    (with_reducible refine (CMD.out _ HB3.out HNC.out).mono ?_)
    rintro e w4 ⟨rfl, hb4⟩
    have HB4 := Lib.hid (HB3.out.trans (hb4.mono HB3.out.size))
    clear hb4
    go_wp2_with fail
    go_ret
    exact ⟨rfl, HB4.out⟩
set_option maxRecDepth 100000 in
set_option maxHeartbeats 8000000 in
theorem pairSays_1 (ss : List ByteArray) (n m : Nat) (ao : Option Addr) (cap : Nat) (p q : ByteArray) (g : Nat) (hg : g < n) (lo : Option Addr) (lc : Nat) (w : World) (h : StrsIn w ao n ss) (hr : Right ss n m) (hp : p.size = m) (hq : q.size = m)
    (hL : Reads w lo (([(g : Int)] : List Int).map (Value.int .i64))) :
    Calls Try.prog 4 #[.slice ao n cap, .string p, .string q, .slice lo 1 lc] w (Yes w) := by
  obtain ⟨X, Y, c1, c3⟩ := put_both ss n m ao cap w h hr
  have C1 := Lib.hid c1
  have C3 := Lib.hid c3
  have H := Lib.hid h
  have HR := Lib.hid hr
  obtain ⟨b0, o0, s0, rfl, c0, hz0⟩ := head_cell hr h.2.2.2
  have n0 : 0 < n := hr.n1
  have n10 := hr.n10
  have m64 := hr.m64
  have HL := Lib.hid hL
  have hss : Hid (ss.length = n) := Lib.hid hr.len
  have C2f : Hid (∀ W, Below w.heap.size w W → Calls Try.prog 14 #[.slice (some ⟨b0, o0, none⟩) n cap, .string p, .string q, .slice lo 1 lc] W (MendP (cond1 ss n p q g) (one1 ss n m p g) m n W)) := Lib.hid (fun W hb => pair_Mend1 ss n m _ cap p q g hg lo lc W (h.below hb) hr hp hq (hL.below hb) (by exact checkLost_one_ok ss n m _ cap p q (g : Int) lo lc W (h.below hb) hr (chk_right hr) hp hq (by simp) (by simp; omega) (hL.below hb)))
  have HG : Hid (∀ _ : (∀ k, k < m → cond1 ss n p q g k), Good ss n m p q [(g : Int)] (one1 ss n m p g)) := Lib.hid (fun hc => good1 ss n m p q g hg hr hp hq hc)
  have CMD : Hid (∀ W, Below w.heap.size w W → (¬ ∀ k, k < m → cond1 ss n p q g k) → Calls Try.prog 17 #[.slice (some ⟨b0, o0, none⟩) n cap, .string p, .string q, .slice lo 1 lc] W (BoolB false W)) := Lib.hid (fun W hb hn => mendable1 ss n m _ cap p q g hg lo lc W (h.below hb) hr hp hq (hL.below hb) hn)
  unfold BoolB at CMD
  have d1 : ((p.size : Int) == (s0.size : Int)) = true := by simp; omega
  have d1n : ((p.size : Int) != (s0.size : Int)) = false := by rw [bne, d1]; rfl
  have d2 : ((q.size : Int) == (s0.size : Int)) = true := by simp; omega
  have d2n : ((q.size : Int) != (s0.size : Int)) = false := by rw [bne, d2]; rfl
  have a1 : decide ((g : Int) < 0) = false := by simp
  have a2 : decide ((n : Int) ≤ (g : Int)) = false := by simp; omega
  have HP := Lib.hid hp
  have HQ := Lib.hid hq
  clear hr h hz0 c1 c3 hL hp hq
  go_enter Try.func4, Try.ntmps4
  go_wp2_with fail
  (with_reducible refine C1.out.mono ?_)
  rintro e w1 ⟨rfl, hb1⟩
  have HB1 := Lib.hid hb1
  have C2 := Lib.hid (C2f.out w1 HB1.out)
  clear C2f hb1
  go_wp2_with fail
  (with_reducible refine C2.out.mono ?_)
  rintro e w2 (⟨hcc, gl, rfl, hRL, hb2⟩ | ⟨hnc, rfl, hb2⟩)
  · have HCC := Lib.hid hcc
    have hRL2 := Lib.hid hRL
    clear hcc hRL
    have HB2 := Lib.hid (HB1.out.trans (hb2.mono HB1.out.size))
    clear hb2
    go_wp2_with fail
    (with_reducible refine (C3.out _ HB2.out).mono ?_)
    rintro e w3 ⟨rfl, hb3⟩
    have HB3 := Lib.hid (HB2.out.trans (hb3.mono HB2.out.size))
    have HB23 := Lib.hid hb3
    have HBw := Lib.hid (HB2.out.size)
    clear hb3
    have c0' := (HB3.out.cell (World.block_lt_of_cell? w _ c0)).trans c0
    obtain ⟨lb, lof, rfl, lc0⟩ := lost_at (HL.out.below HB3.out) (i := 0) (a := (g : Int)) rfl
    rw [Nat.add_zero] at lc0
    go_wp2_with fail
    refine wp_loop_rounds 2 ?_
    rw [rounds_succ]
    go_wp2_with fail
    rw [rounds_succ]
    go_wp2_with fail
    have HGG := Lib.hid (HG.out HCC.out)
    have HR3 := Lib.hid (hRL2.out.below HB23.out)
    clear hRL2
    go_wp2_with fail
    (with_reducible refine (HGG.out.pairOf _ _ _ HR3.out).mono ?_)
    rintro e w4 ⟨rfl, hb4⟩
    have HB4 := Lib.hid (HB3.out.trans (hb4.mono HB3.out.size))
    have HR4 := Lib.hid (HR3.out.below hb4)
    clear hb4 HR3
    go_wp2_with fail
    go_loopw [159] (fun vi wr => ∃ k : Nat, vi = .int .i64 k ∧ k ≤ n ∧ Hid (Below w.heap.size w wr) ∧ Hid (Reads wr (some ⟨gl, 0, none⟩) (rowF n fun j => .string (one1 ss n m p g j)))) (fun vi _ => n - (intOf vi).toNat)
    case atStart => exact ⟨0, rfl, by omega, HB4, HR4⟩
    case round =>
      clear HB4 HR4
      obtain ⟨k, rfl, hk, HB, HRL⟩ := hrel
      obtain ⟨wo, rfl⟩ : ∃ wo, wo = wr := ⟨_, rfl⟩
      by_cases hkn : k < n
      · obtain ⟨bl, ol, ha, x1⟩ := HRL.out k _ (rowF_get _ hkn)
        cases ha
        rw [Nat.zero_add] at x1
        obtain ⟨bb, ob, ha2, x2⟩ := (H.out.2.2.2.below HB.out) k _ (str_at (by have := hss.out; omega))
        cases ha2
        have keep := HGG.out.keep k hkn
        obtain ⟨S1, hS1⟩ : ∃ S, one1 ss n m p g k = S := ⟨_, rfl⟩
        obtain ⟨S2, hS2⟩ : ∃ S, sAt ss k = S := ⟨_, rfl⟩
        rw [hS1] at x1
        rw [hS2] at x2
        replace keep : (k : Int) ∉ [(g : Int)] → S1 = S2 := fun hh => hS1.symm.trans ((keep hh).trans hS2)
        have i0 : (0 : Int) ≤ (k : Int) := by omega
        have i1 : (k : Int) < (n : Int) := by omega
        clear hS1 hS2
        by_cases hmem : (k : Int) ∈ [(g : Int)]
        · by_cases heq : S1 = S2
          · have t1 := str_eq heq
            have t2 : (S1.toList != S2.toList) = false := by rw [bne, t1]; rfl
            clear heq keep hmem
            go_wp2_with fail
            go_quiet (fail)
            go_wp2_with fail
            go_roundw
            case rel => exact ⟨k + 1, by go_num, by omega, Lib.hid (below_drewN HB.out _), Lib.hid (HRL.out.below (below_dr _ _ _))⟩
            case measure => simp [intOf]; omega
          · have t1 := str_ne heq
            have t2 : (S1.toList != S2.toList) = true := by rw [bne, t1]; rfl
            have CC := Lib.hid (fun q => contains_i64 (k : Int) [(g : Int)] 1 (some ⟨lb, lof, none⟩) lc (wo.drewN q) rfl (by omega) (Lib.hid (HL.out.below (below_drewN HB.out q))))
            rw [decide_eq_true hmem] at CC
            clear heq keep hmem
            go_wp2_with fail
            go_quiet ((go_at_call 16; exact Calls.quiet_of (CC.out _)))
            go_wp2_with fail
            go_roundw
            case rel => exact ⟨k + 1, by go_num, by omega, Lib.hid (below_drewN HB.out _), Lib.hid (HRL.out.below (below_dr _ _ _))⟩
            case measure => simp [intOf]; omega
        · have t1 := str_eq (keep hmem)
          have t2 : (S1.toList != S2.toList) = false := by rw [bne, t1]; rfl
          clear keep hmem
          go_wp2_with fail
          go_quiet (fail)
          go_wp2_with fail
          go_roundw
          case rel => exact ⟨k + 1, by go_num, by omega, Lib.hid (below_drewN HB.out _), Lib.hid (HRL.out.below (below_dr _ _ _))⟩
          case measure => simp [intOf]; omega
      · obtain rfl : k = n := by omega
        go_wp2_with fail
        go_ret
        exact ⟨rfl, HB.out⟩
  · have HNC := Lib.hid hnc
    clear hnc
    have HB2 := Lib.hid (HB1.out.trans (hb2.mono HB1.out.size))
    clear hb2
    go_wp2_with fail
    (with_reducible refine (C3.out _ HB2.out).mono ?_)
    rintro e w3 ⟨rfl, hb3⟩
    have HB3 := Lib.hid (HB2.out.trans (hb3.mono HB2.out.size))
    have HB23 := Lib.hid hb3
    have HBw := Lib.hid (HB2.out.size)
    clear hb3
    have c0' := (HB3.out.cell (World.block_lt_of_cell? w _ c0)).trans c0
    obtain ⟨lb, lof, rfl, lc0⟩ := lost_at (HL.out.below HB3.out) (i := 0) (a := (g : Int)) rfl
    rw [Nat.add_zero] at lc0
    go_wp2_with fail
    refine wp_loop_rounds 2 ?_
    rw [rounds_succ]
    go_wp2_with fail
    rw [rounds_succ]
    go_wp2_with fail
    go_wp2_with fail
    (with_reducible refine (CMD.out _ HB3.out HNC.out).mono ?_)
    rintro e w4 ⟨rfl, hb4⟩
    have HB4 := Lib.hid (HB3.out.trans (hb4.mono HB3.out.size))
    clear hb4
    go_wp2_with fail
    go_ret
    exact ⟨rfl, HB4.out⟩
set_option maxRecDepth 100000 in
set_option maxHeartbeats 8000000 in
theorem pairSays_2 (ss : List ByteArray) (n m : Nat) (ao : Option Addr) (cap : Nat) (p q : ByteArray) (g h2 : Nat) (hg : g < n) (hh : h2 < n) (hgh : g ≠ h2) (lo : Option Addr) (lc : Nat) (w : World) (h : StrsIn w ao n ss) (hr : Right ss n m) (hp : p.size = m) (hq : q.size = m)
    (hL : Reads w lo (([(g : Int), (h2 : Int)] : List Int).map (Value.int .i64))) :
    Calls Try.prog 4 #[.slice ao n cap, .string p, .string q, .slice lo 2 lc] w (Yes w) := by
  obtain ⟨X, Y, c1, c3⟩ := put_both ss n m ao cap w h hr
  have C1 := Lib.hid c1
  have C3 := Lib.hid c3
  have H := Lib.hid h
  have HR := Lib.hid hr
  obtain ⟨b0, o0, s0, rfl, c0, hz0⟩ := head_cell hr h.2.2.2
  have n0 : 0 < n := hr.n1
  have n10 := hr.n10
  have m64 := hr.m64
  have HL := Lib.hid hL
  have hss : Hid (ss.length = n) := Lib.hid hr.len
  have C2f : Hid (∀ W, Below w.heap.size w W → Calls Try.prog 14 #[.slice (some ⟨b0, o0, none⟩) n cap, .string p, .string q, .slice lo 2 lc] W (MendOk (two2 ss n m p q g h2) n W)) := Lib.hid (fun W hb => pair_Mend2 ss n m _ cap p q g h2 hg hh hgh lo lc W (h.below hb) hr hp hq (hL.below hb) (by exact checkLost_two_ok ss n m _ cap p q (g : Int) (h2 : Int) lo lc W (h.below hb) hr (chk_right hr) hp hq (by simp) (by simp; omega) (by simp) (by simp; omega) (by simp; omega) (hL.below hb)))
  have HG : Hid (Good ss n m p q [(g : Int), (h2 : Int)] (two2 ss n m p q g h2)) := Lib.hid (good2 ss n m p q g h2 hg hh hgh hr hp hq)
  have d1 : ((p.size : Int) == (s0.size : Int)) = true := by simp; omega
  have d1n : ((p.size : Int) != (s0.size : Int)) = false := by rw [bne, d1]; rfl
  have d2 : ((q.size : Int) == (s0.size : Int)) = true := by simp; omega
  have d2n : ((q.size : Int) != (s0.size : Int)) = false := by rw [bne, d2]; rfl
  have a1 : decide ((g : Int) < 0) = false := by simp
  have a2 : decide ((n : Int) ≤ (g : Int)) = false := by simp; omega
  have b1 : decide ((h2 : Int) < 0) = false := by simp
  have b2 : decide ((n : Int) ≤ (h2 : Int)) = false := by simp; omega
  have ab : ((h2 : Int) == (g : Int)) = false := by simp; omega
  have HP := Lib.hid hp
  have HQ := Lib.hid hq
  clear hr h hz0 c1 c3 hL hp hq
  go_enter Try.func4, Try.ntmps4
  go_wp2_with fail
  (with_reducible refine C1.out.mono ?_)
  rintro e w1 ⟨rfl, hb1⟩
  have HB1 := Lib.hid hb1
  have C2 := Lib.hid (C2f.out w1 HB1.out)
  clear C2f hb1
  go_wp2_with fail
  (with_reducible refine C2.out.mono ?_)
  rintro e w2 ⟨gl, rfl, hRL, hb2⟩
  have hRL2 := Lib.hid hRL
  clear hRL
  have HB2 := Lib.hid (HB1.out.trans (hb2.mono HB1.out.size))
  clear hb2
  go_wp2_with fail
  (with_reducible refine (C3.out _ HB2.out).mono ?_)
  rintro e w3 ⟨rfl, hb3⟩
  have HB3 := Lib.hid (HB2.out.trans (hb3.mono HB2.out.size))
  have HB23 := Lib.hid hb3
  have HBw := Lib.hid (HB2.out.size)
  clear hb3
  have c0' := (HB3.out.cell (World.block_lt_of_cell? w _ c0)).trans c0
  obtain ⟨lb, lof, rfl, lc0⟩ := lost_at (HL.out.below HB3.out) (i := 0) (a := (g : Int)) rfl
  rw [Nat.add_zero] at lc0
  obtain ⟨lb1, lof1, hla, lc1⟩ := lost_at (HL.out.below HB3.out) (i := 1) (a := (h2 : Int)) rfl
  cases hla
  go_wp2_with fail
  refine wp_loop_rounds 3 ?_
  rw [rounds_succ]
  go_wp2_with fail
  rw [rounds_succ]
  go_wp2_with fail
  rw [rounds_succ]
  go_wp2_with fail
  have HGG := Lib.hid (HG.out)
  have HR3 := Lib.hid (hRL2.out.below HB23.out)
  clear hRL2
  go_wp2_with fail
  (with_reducible refine (HGG.out.pairOf _ _ _ HR3.out).mono ?_)
  rintro e w4 ⟨rfl, hb4⟩
  have HB4 := Lib.hid (HB3.out.trans (hb4.mono HB3.out.size))
  have HR4 := Lib.hid (HR3.out.below hb4)
  clear hb4 HR3
  go_wp2_with fail
  go_loopw [159] (fun vi wr => ∃ k : Nat, vi = .int .i64 k ∧ k ≤ n ∧ Hid (Below w.heap.size w wr) ∧ Hid (Reads wr (some ⟨gl, 0, none⟩) (rowF n fun j => .string (two2 ss n m p q g h2 j)))) (fun vi _ => n - (intOf vi).toNat)
  case atStart => exact ⟨0, rfl, by omega, HB4, HR4⟩
  case round =>
    clear HB4 HR4
    obtain ⟨k, rfl, hk, HB, HRL⟩ := hrel
    obtain ⟨wo, rfl⟩ : ∃ wo, wo = wr := ⟨_, rfl⟩
    by_cases hkn : k < n
    · obtain ⟨bl, ol, ha, x1⟩ := HRL.out k _ (rowF_get _ hkn)
      cases ha
      rw [Nat.zero_add] at x1
      obtain ⟨bb, ob, ha2, x2⟩ := (H.out.2.2.2.below HB.out) k _ (str_at (by have := hss.out; omega))
      cases ha2
      have keep := HGG.out.keep k hkn
      obtain ⟨S1, hS1⟩ : ∃ S, two2 ss n m p q g h2 k = S := ⟨_, rfl⟩
      obtain ⟨S2, hS2⟩ : ∃ S, sAt ss k = S := ⟨_, rfl⟩
      rw [hS1] at x1
      rw [hS2] at x2
      replace keep : (k : Int) ∉ [(g : Int), (h2 : Int)] → S1 = S2 := fun hh => hS1.symm.trans ((keep hh).trans hS2)
      have i0 : (0 : Int) ≤ (k : Int) := by omega
      have i1 : (k : Int) < (n : Int) := by omega
      clear hS1 hS2
      by_cases hmem : (k : Int) ∈ [(g : Int), (h2 : Int)]
      · by_cases heq : S1 = S2
        · have t1 := str_eq heq
          have t2 : (S1.toList != S2.toList) = false := by rw [bne, t1]; rfl
          clear heq keep hmem
          go_wp2_with fail
          go_quiet (fail)
          go_wp2_with fail
          go_roundw
          case rel => exact ⟨k + 1, by go_num, by omega, Lib.hid (below_drewN HB.out _), Lib.hid (HRL.out.below (below_dr _ _ _))⟩
          case measure => simp [intOf]; omega
        · have t1 := str_ne heq
          have t2 : (S1.toList != S2.toList) = true := by rw [bne, t1]; rfl
          have CC := Lib.hid (fun q => contains_i64 (k : Int) [(g : Int), (h2 : Int)] 2 (some ⟨lb, lof, none⟩) lc (wo.drewN q) rfl (by omega) (Lib.hid (HL.out.below (below_drewN HB.out q))))
          rw [decide_eq_true hmem] at CC
          clear heq keep hmem
          go_wp2_with fail
          go_quiet ((go_at_call 16; exact Calls.quiet_of (CC.out _)))
          go_wp2_with fail
          go_roundw
          case rel => exact ⟨k + 1, by go_num, by omega, Lib.hid (below_drewN HB.out _), Lib.hid (HRL.out.below (below_dr _ _ _))⟩
          case measure => simp [intOf]; omega
      · have t1 := str_eq (keep hmem)
        have t2 : (S1.toList != S2.toList) = false := by rw [bne, t1]; rfl
        clear keep hmem
        go_wp2_with fail
        go_quiet (fail)
        go_wp2_with fail
        go_roundw
        case rel => exact ⟨k + 1, by go_num, by omega, Lib.hid (below_drewN HB.out _), Lib.hid (HRL.out.below (below_dr _ _ _))⟩
        case measure => simp [intOf]; omega
    · obtain rfl : k = n := by omega
      go_wp2_with fail
      go_ret
      exact ⟨rfl, HB.out⟩
theorem pairSays_walk (ao : Option Addr) (n cap : Nat) (ss : List ByteArray) (p q : ByteArray) (lo : Option Addr) (ln lc : Nat) (lost : List Int) (w : World) (h : StrsIn w ao n ss ∧ CapOk ao n cap) (hp : p.size ≤ maxLen) (hq : q.size ≤ maxLen) (hl : IntsIn .i64 w lo ln lost ∧ CapOk lo ln lc) :
    Calls Try.prog 4 #[.slice ao n cap, .string p, .string q, .slice lo ln lc] w fun e w' => e = .returned (.bool true) ∧ Below w.heap.size w w' := by
  obtain ⟨h, _⟩ := h
  obtain ⟨⟨hl1, hl2, _, hL⟩, _⟩ := hl
  have hp64 : p.size ≤ 9223372036854775807 := by unfold maxLen at hp; omega
  have hq64 : q.size ≤ 9223372036854775807 := by unfold maxLen at hq; omega
  by_cases hc : chkP ss = 0
  · have hr := right_of h.1 hc
    obtain ⟨m, hm⟩ : ∃ m, (sAt ss 0).size = m := ⟨_, rfl⟩
    rw [hm] at hr
    by_cases hp : p.size = m
    · by_cases hq : q.size = m
      · match lost, hl1, hL with
        | [], hl1, hL =>
          obtain rfl : ln = 0 := by simpa using hl1.symm
          exact pairSays_0 ss n m ao cap p q lo lc w h hr hp hq hL
        | [a], hl1, hL =>
          obtain rfl : ln = 1 := by simpa using hl1.symm
          by_cases h1 : a < 0
          · exact pairSays_one_a ss n m ao cap p q a lo lc w h hr hp64 hq64 hp hq (decide_eq_true h1) hL
          by_cases h2 : (n : Int) ≤ a
          · exact pairSays_one_b ss n m ao cap p q a lo lc w h hr hp64 hq64 hp hq (decide_eq_false h1) (decide_eq_true h2) hL
          obtain ⟨g, rfl⟩ : ∃ g : Nat, a = g := ⟨a.toNat, by omega⟩
          exact pairSays_1 ss n m ao cap p q g (by omega) lo lc w h hr hp hq hL
        | [a, b], hl1, hL =>
          obtain rfl : ln = 2 := by simpa using hl1.symm
          by_cases h1 : a < 0
          · exact pairSays_two_a ss n m ao cap p q a b lo lc w h hr hp64 hq64 hp hq (decide_eq_true h1) hL
          by_cases h2 : (n : Int) ≤ a
          · exact pairSays_two_b ss n m ao cap p q a b lo lc w h hr hp64 hq64 hp hq (decide_eq_false h1) (decide_eq_true h2) hL
          by_cases h3 : b < 0
          · exact pairSays_two_c ss n m ao cap p q a b lo lc w h hr hp64 hq64 hp hq (decide_eq_false h1) (decide_eq_false h2) (decide_eq_true h3) hL
          by_cases h4 : (n : Int) ≤ b
          · exact pairSays_two_d ss n m ao cap p q a b lo lc w h hr hp64 hq64 hp hq (decide_eq_false h1) (decide_eq_false h2) (decide_eq_false h3) (decide_eq_true h4) hL
          by_cases h5 : b = a
          · exact pairSays_two_e ss n m ao cap p q a b lo lc w h hr hp64 hq64 hp hq (decide_eq_false h1) (decide_eq_false h2) (decide_eq_false h3) (decide_eq_false h4) (by simp [h5]) hL
          obtain ⟨g, rfl⟩ : ∃ g : Nat, a = g := ⟨a.toNat, by omega⟩
          obtain ⟨k, rfl⟩ : ∃ g : Nat, b = g := ⟨b.toNat, by omega⟩
          exact pairSays_2 ss n m ao cap p q g k (by omega) (by omega) (by omega) lo lc w h hr hp hq hL
        | a :: b :: c :: t, hl1, hL =>
          have h2 : 2 < ln := by simp at hl1; omega
          exact pairSays_many ss n m ao cap p q (a :: b :: c :: t) ln lo lc w h hr hp64 hq64 hp hq h2 (by simp; omega) hl1 hl2 hL
      · exact pairSays_formq ss n m ao cap p q lost ln lo lc w h hr hp64 hq64 hp hq hl1 hl2 hL
    · exact pairSays_formp ss n m ao cap p q lost ln lo lc w h hr hp64 hq64 hp hl1 hl2 hL
  · exact pairSays_bad ss n ao cap p q ln lo lc w h _ rfl hc
end Go.Proofs.Ythnbhhfbmkklmaa
