/- pair.checkLost. -/
import Derived.Test.YthnbhhfbmkklmaaPair3
import Derived.LoopN
namespace Go.Proofs.Ythnbhhfbmkklmaa
open Go.RowKit

/-- What checkLost says of right blocks. -/
def lostE (n : Nat) : List Int → Nat
  | [] => 0
  | [a] => if a < 0 ∨ (n : Int) ≤ a then 1 else 0
  | [a, b] => if a < 0 ∨ (n : Int) ≤ a then 1 else if b < 0 ∨ (n : Int) ≤ b then 1 else if b = a then 6 else 0
  | _ => 9
def chkL (ss : List ByteArray) (m : Nat) (p q : ByteArray) (lost : List Int) : Nat :=
  if p.size ≠ m ∨ q.size ≠ m then 3 else lostE ss.length lost
set_option maxHeartbeats 1000000 in
theorem checkLost_bad (ss : List ByteArray) (n : Nat) (ao : Option Addr) (cap : Nat) (p q : ByteArray) (lost : List Int) (ln : Nat) (lo : Option Addr) (lc : Nat) (w : World) (h : StrsIn w ao n ss) (E : Nat) (hE : chkP ss = E) (h0 : E ≠ 0) :
    Calls Try.prog 53 #[.slice ao n cap, .string p, .string q, .slice lo ln lc] w fun e w' => e = .returned (.int .i64 (E : Nat)) ∧ w = w' := by
  have CC := Lib.hid (pair_check ss n ao cap w h)
  rw [hE] at CC
  have hz : ((E : Int) == 0) = false := by simp; omega
  clear hE h
  go_enter Try.func53, Try.ntmps53
  go_wp2_with fail
  (with_reducible refine CC.out.mono ?_)
  rintro e w1 ⟨rfl, rfl⟩
  go_wp2_with fail
  go_ret
  exact ⟨rfl, rfl⟩
theorem head_cell {w : World} {ao : Option Addr} {ss : List ByteArray} {n m : Nat} (hr : Right ss n m) (hR : Reads w ao (ss.map Value.string)) : ∃ b o s0, ao = some ⟨b, o, none⟩ ∧ w.cell? ⟨b, o, none⟩ = some (.string s0) ∧ s0.size = m := by
  have h1 := hr.n1
  have h2 := hr.len
  obtain ⟨b0, o0, ha, c0⟩ := hR 0 _ (str_at (by omega))
  exact ⟨b0, o0, _, ha, c0, hr.all 0 (by omega)⟩
set_option maxHeartbeats 2000000 in
set_option maxRecDepth 20000 in
theorem checkLost_form (ss : List ByteArray) (n m : Nat) (ao : Option Addr) (cap : Nat) (p q : ByteArray) (lost : List Int) (ln : Nat) (lo : Option Addr) (lc : Nat) (w : World) (h : StrsIn w ao n ss) (hr : Right ss n m) (hc : chkP ss = 0)
    (hs : p.size ≠ m ∨ (p.size = m ∧ q.size ≠ m)) (hp : p.size ≤ 9223372036854775807) (hq : q.size ≤ 9223372036854775807) :
    Calls Try.prog 53 #[.slice ao n cap, .string p, .string q, .slice lo ln lc] w fun e w' => e = .returned (.int .i64 3) ∧ w = w' := by
  have CC := Lib.hid (pair_check ss n ao cap w h)
  rw [hc] at CC
  obtain ⟨b0, o0, s0, rfl, c0, hz0⟩ := head_cell hr h.2.2.2
  have n0 : 0 < n := hr.n1
  have m64 := hr.m64
  clear hc h hr
  rcases hs with hs | ⟨hs1, hs⟩
  · have d1 : ((p.size : Int) == (s0.size : Int)) = false := by simp; omega
    have d1n : ((p.size : Int) != (s0.size : Int)) = true := by rw [bne, d1]; rfl
    go_enter Try.func53, Try.ntmps53
    go_wp2_with fail
    (with_reducible refine CC.out.mono ?_)
    rintro e w1 ⟨rfl, rfl⟩
    go_wp2_with fail
    go_ret
    exact ⟨rfl, rfl⟩
  · have d1 : ((p.size : Int) == (s0.size : Int)) = true := by simp; omega
    have d1n : ((p.size : Int) != (s0.size : Int)) = false := by rw [bne, d1]; rfl
    have d2 : ((q.size : Int) == (s0.size : Int)) = false := by simp; omega
    have d2n : ((q.size : Int) != (s0.size : Int)) = true := by rw [bne, d2]; rfl
    have HS := Lib.hid hs1
    have HZ := Lib.hid hz0
    clear hs1 hz0
    go_enter Try.func53, Try.ntmps53
    go_wp2_with fail
    (with_reducible refine CC.out.mono ?_)
    rintro e w1 ⟨rfl, rfl⟩
    go_wp2_with fail
    go_ret
    exact ⟨rfl, rfl⟩
theorem lost_at {w : World} {lo : Option Addr} {lost : List Int} (hL : Reads w lo (lost.map (Value.int .i64))) {i : Nat} {a : Int} (h : lost[i]? = some a) : ∃ b o, lo = some ⟨b, o, none⟩ ∧ w.cell? ⟨b, o + i, none⟩ = some (.int .i64 a) :=
  hL i _ (by rw [List.getElem?_map, h]; rfl)
-- WAYS
set_option maxHeartbeats 2000000 in
set_option maxRecDepth 20000 in
theorem checkLost_nil (ss : List ByteArray) (n m : Nat) (ao : Option Addr) (cap : Nat) (p q : ByteArray)  (lo : Option Addr) (lc : Nat) (w : World) (h : StrsIn w ao n ss) (hr : Right ss n m) (hc : chkP ss = 0)
    (hp : p.size = m) (hq : q.size = m)  :
    Calls Try.prog 53 #[.slice ao n cap, .string p, .string q, .slice lo 0 lc] w fun e w' => e = .returned (.int .i64 0) ∧ w = w' := by
  have CC := Lib.hid (pair_check ss n ao cap w h)
  rw [hc] at CC
  obtain ⟨b0, o0, s0, rfl, c0, hz0⟩ := head_cell hr h.2.2.2
  have n0 : 0 < n := hr.n1
  have m64 := hr.m64
  have n10 := hr.n10
  have d1 : ((p.size : Int) == (s0.size : Int)) = true := by simp; omega
  have d1n : ((p.size : Int) != (s0.size : Int)) = false := by rw [bne, d1]; rfl
  have d2 : ((q.size : Int) == (s0.size : Int)) = true := by simp; omega
  have d2n : ((q.size : Int) != (s0.size : Int)) = false := by rw [bne, d2]; rfl
  clear hc h hr hp hq hz0
  go_enter Try.func53, Try.ntmps53
  go_wp2_with fail
  (with_reducible refine CC.out.mono ?_)
  rintro e w1 ⟨rfl, rfl⟩
  go_wp2_with fail
  refine wp_loop_rounds 1 ?_
  rw [rounds_succ]
  go_wp2_with fail
  go_ret
  exact ⟨rfl, rfl⟩
set_option maxHeartbeats 2000000 in
set_option maxRecDepth 20000 in
theorem checkLost_one_a (ss : List ByteArray) (n m : Nat) (ao : Option Addr) (cap : Nat) (p q : ByteArray) (a : Int) (lo : Option Addr) (lc : Nat) (w : World) (h : StrsIn w ao n ss) (hr : Right ss n m) (hc : chkP ss = 0)
    (hp : p.size = m) (hq : q.size = m) (a1 : decide (a < 0) = true) (hL : Reads w lo ([a].map (Value.int .i64))) :
    Calls Try.prog 53 #[.slice ao n cap, .string p, .string q, .slice lo 1 lc] w fun e w' => e = .returned (.int .i64 1) ∧ w = w' := by
  have CC := Lib.hid (pair_check ss n ao cap w h)
  rw [hc] at CC
  obtain ⟨b0, o0, s0, rfl, c0, hz0⟩ := head_cell hr h.2.2.2
  have n0 : 0 < n := hr.n1
  have m64 := hr.m64
  have n10 := hr.n10
  have d1 : ((p.size : Int) == (s0.size : Int)) = true := by simp; omega
  have d1n : ((p.size : Int) != (s0.size : Int)) = false := by rw [bne, d1]; rfl
  have d2 : ((q.size : Int) == (s0.size : Int)) = true := by simp; omega
  have d2n : ((q.size : Int) != (s0.size : Int)) = false := by rw [bne, d2]; rfl
  obtain ⟨lb, lof, rfl, lc0⟩ := lost_at hL (i := 0) (a := a) rfl
  rw [Nat.add_zero] at lc0
  clear hc h hr hp hq hz0 hL
  go_enter Try.func53, Try.ntmps53
  go_wp2_with fail
  (with_reducible refine CC.out.mono ?_)
  rintro e w1 ⟨rfl, rfl⟩
  go_wp2_with fail
  refine wp_loop_rounds 1 ?_
  rw [rounds_succ]
  go_wp2_with fail
  go_ret
  exact ⟨rfl, rfl⟩
set_option maxHeartbeats 2000000 in
set_option maxRecDepth 20000 in
theorem checkLost_one_b (ss : List ByteArray) (n m : Nat) (ao : Option Addr) (cap : Nat) (p q : ByteArray) (a : Int) (lo : Option Addr) (lc : Nat) (w : World) (h : StrsIn w ao n ss) (hr : Right ss n m) (hc : chkP ss = 0)
    (hp : p.size = m) (hq : q.size = m) (a1 : decide (a < 0) = false) (a2 : decide ((n : Int) ≤ a) = true) (hL : Reads w lo ([a].map (Value.int .i64))) :
    Calls Try.prog 53 #[.slice ao n cap, .string p, .string q, .slice lo 1 lc] w fun e w' => e = .returned (.int .i64 1) ∧ w = w' := by
  have CC := Lib.hid (pair_check ss n ao cap w h)
  rw [hc] at CC
  obtain ⟨b0, o0, s0, rfl, c0, hz0⟩ := head_cell hr h.2.2.2
  have n0 : 0 < n := hr.n1
  have m64 := hr.m64
  have n10 := hr.n10
  have d1 : ((p.size : Int) == (s0.size : Int)) = true := by simp; omega
  have d1n : ((p.size : Int) != (s0.size : Int)) = false := by rw [bne, d1]; rfl
  have d2 : ((q.size : Int) == (s0.size : Int)) = true := by simp; omega
  have d2n : ((q.size : Int) != (s0.size : Int)) = false := by rw [bne, d2]; rfl
  obtain ⟨lb, lof, rfl, lc0⟩ := lost_at hL (i := 0) (a := a) rfl
  rw [Nat.add_zero] at lc0
  clear hc h hr hp hq hz0 hL
  go_enter Try.func53, Try.ntmps53
  go_wp2_with fail
  (with_reducible refine CC.out.mono ?_)
  rintro e w1 ⟨rfl, rfl⟩
  go_wp2_with fail
  refine wp_loop_rounds 1 ?_
  rw [rounds_succ]
  go_wp2_with fail
  go_ret
  exact ⟨rfl, rfl⟩
set_option maxHeartbeats 2000000 in
set_option maxRecDepth 20000 in
theorem checkLost_one_ok (ss : List ByteArray) (n m : Nat) (ao : Option Addr) (cap : Nat) (p q : ByteArray) (a : Int) (lo : Option Addr) (lc : Nat) (w : World) (h : StrsIn w ao n ss) (hr : Right ss n m) (hc : chkP ss = 0)
    (hp : p.size = m) (hq : q.size = m) (a1 : decide (a < 0) = false) (a2 : decide ((n : Int) ≤ a) = false) (hL : Reads w lo ([a].map (Value.int .i64))) :
    Calls Try.prog 53 #[.slice ao n cap, .string p, .string q, .slice lo 1 lc] w fun e w' => e = .returned (.int .i64 0) ∧ w = w' := by
  have CC := Lib.hid (pair_check ss n ao cap w h)
  rw [hc] at CC
  obtain ⟨b0, o0, s0, rfl, c0, hz0⟩ := head_cell hr h.2.2.2
  have n0 : 0 < n := hr.n1
  have m64 := hr.m64
  have n10 := hr.n10
  have d1 : ((p.size : Int) == (s0.size : Int)) = true := by simp; omega
  have d1n : ((p.size : Int) != (s0.size : Int)) = false := by rw [bne, d1]; rfl
  have d2 : ((q.size : Int) == (s0.size : Int)) = true := by simp; omega
  have d2n : ((q.size : Int) != (s0.size : Int)) = false := by rw [bne, d2]; rfl
  obtain ⟨lb, lof, rfl, lc0⟩ := lost_at hL (i := 0) (a := a) rfl
  rw [Nat.add_zero] at lc0
  clear hc h hr hp hq hz0 hL
  go_enter Try.func53, Try.ntmps53
  go_wp2_with fail
  (with_reducible refine CC.out.mono ?_)
  rintro e w1 ⟨rfl, rfl⟩
  go_wp2_with fail
  refine wp_loop_rounds 2 ?_
  rw [rounds_succ]
  go_wp2_with fail
  rw [rounds_succ]
  go_wp2_with fail
  go_ret
  exact ⟨rfl, rfl⟩
set_option maxHeartbeats 2000000 in
set_option maxRecDepth 20000 in
theorem checkLost_two_a (ss : List ByteArray) (n m : Nat) (ao : Option Addr) (cap : Nat) (p q : ByteArray) (a b : Int) (lo : Option Addr) (lc : Nat) (w : World) (h : StrsIn w ao n ss) (hr : Right ss n m) (hc : chkP ss = 0)
    (hp : p.size = m) (hq : q.size = m) (a1 : decide (a < 0) = true) (hL : Reads w lo ([a, b].map (Value.int .i64))) :
    Calls Try.prog 53 #[.slice ao n cap, .string p, .string q, .slice lo 2 lc] w fun e w' => e = .returned (.int .i64 1) ∧ w = w' := by
  have CC := Lib.hid (pair_check ss n ao cap w h)
  rw [hc] at CC
  obtain ⟨b0, o0, s0, rfl, c0, hz0⟩ := head_cell hr h.2.2.2
  have n0 : 0 < n := hr.n1
  have m64 := hr.m64
  have n10 := hr.n10
  have d1 : ((p.size : Int) == (s0.size : Int)) = true := by simp; omega
  have d1n : ((p.size : Int) != (s0.size : Int)) = false := by rw [bne, d1]; rfl
  have d2 : ((q.size : Int) == (s0.size : Int)) = true := by simp; omega
  have d2n : ((q.size : Int) != (s0.size : Int)) = false := by rw [bne, d2]; rfl
  obtain ⟨lb, lof, rfl, lc0⟩ := lost_at hL (i := 0) (a := a) rfl
  rw [Nat.add_zero] at lc0
  obtain ⟨lb1, lof1, hla, lc1⟩ := lost_at hL (i := 1) (a := b) rfl
  cases hla
  clear hc h hr hp hq hz0 hL
  go_enter Try.func53, Try.ntmps53
  go_wp2_with fail
  (with_reducible refine CC.out.mono ?_)
  rintro e w1 ⟨rfl, rfl⟩
  go_wp2_with fail
  refine wp_loop_rounds 1 ?_
  rw [rounds_succ]
  go_wp2_with fail
  go_ret
  exact ⟨rfl, rfl⟩
set_option maxHeartbeats 2000000 in
set_option maxRecDepth 20000 in
theorem checkLost_two_b (ss : List ByteArray) (n m : Nat) (ao : Option Addr) (cap : Nat) (p q : ByteArray) (a b : Int) (lo : Option Addr) (lc : Nat) (w : World) (h : StrsIn w ao n ss) (hr : Right ss n m) (hc : chkP ss = 0)
    (hp : p.size = m) (hq : q.size = m) (a1 : decide (a < 0) = false) (a2 : decide ((n : Int) ≤ a) = true) (hL : Reads w lo ([a, b].map (Value.int .i64))) :
    Calls Try.prog 53 #[.slice ao n cap, .string p, .string q, .slice lo 2 lc] w fun e w' => e = .returned (.int .i64 1) ∧ w = w' := by
  have CC := Lib.hid (pair_check ss n ao cap w h)
  rw [hc] at CC
  obtain ⟨b0, o0, s0, rfl, c0, hz0⟩ := head_cell hr h.2.2.2
  have n0 : 0 < n := hr.n1
  have m64 := hr.m64
  have n10 := hr.n10
  have d1 : ((p.size : Int) == (s0.size : Int)) = true := by simp; omega
  have d1n : ((p.size : Int) != (s0.size : Int)) = false := by rw [bne, d1]; rfl
  have d2 : ((q.size : Int) == (s0.size : Int)) = true := by simp; omega
  have d2n : ((q.size : Int) != (s0.size : Int)) = false := by rw [bne, d2]; rfl
  obtain ⟨lb, lof, rfl, lc0⟩ := lost_at hL (i := 0) (a := a) rfl
  rw [Nat.add_zero] at lc0
  obtain ⟨lb1, lof1, hla, lc1⟩ := lost_at hL (i := 1) (a := b) rfl
  cases hla
  clear hc h hr hp hq hz0 hL
  go_enter Try.func53, Try.ntmps53
  go_wp2_with fail
  (with_reducible refine CC.out.mono ?_)
  rintro e w1 ⟨rfl, rfl⟩
  go_wp2_with fail
  refine wp_loop_rounds 1 ?_
  rw [rounds_succ]
  go_wp2_with fail
  go_ret
  exact ⟨rfl, rfl⟩
set_option maxHeartbeats 2000000 in
set_option maxRecDepth 20000 in
theorem checkLost_two_c (ss : List ByteArray) (n m : Nat) (ao : Option Addr) (cap : Nat) (p q : ByteArray) (a b : Int) (lo : Option Addr) (lc : Nat) (w : World) (h : StrsIn w ao n ss) (hr : Right ss n m) (hc : chkP ss = 0)
    (hp : p.size = m) (hq : q.size = m) (a1 : decide (a < 0) = false) (a2 : decide ((n : Int) ≤ a) = false) (b1 : decide (b < 0) = true) (hL : Reads w lo ([a, b].map (Value.int .i64))) :
    Calls Try.prog 53 #[.slice ao n cap, .string p, .string q, .slice lo 2 lc] w fun e w' => e = .returned (.int .i64 1) ∧ w = w' := by
  have CC := Lib.hid (pair_check ss n ao cap w h)
  rw [hc] at CC
  obtain ⟨b0, o0, s0, rfl, c0, hz0⟩ := head_cell hr h.2.2.2
  have n0 : 0 < n := hr.n1
  have m64 := hr.m64
  have n10 := hr.n10
  have d1 : ((p.size : Int) == (s0.size : Int)) = true := by simp; omega
  have d1n : ((p.size : Int) != (s0.size : Int)) = false := by rw [bne, d1]; rfl
  have d2 : ((q.size : Int) == (s0.size : Int)) = true := by simp; omega
  have d2n : ((q.size : Int) != (s0.size : Int)) = false := by rw [bne, d2]; rfl
  obtain ⟨lb, lof, rfl, lc0⟩ := lost_at hL (i := 0) (a := a) rfl
  rw [Nat.add_zero] at lc0
  obtain ⟨lb1, lof1, hla, lc1⟩ := lost_at hL (i := 1) (a := b) rfl
  cases hla
  clear hc h hr hp hq hz0 hL
  go_enter Try.func53, Try.ntmps53
  go_wp2_with fail
  (with_reducible refine CC.out.mono ?_)
  rintro e w1 ⟨rfl, rfl⟩
  go_wp2_with fail
  refine wp_loop_rounds 2 ?_
  rw [rounds_succ]
  go_wp2_with fail
  rw [rounds_succ]
  go_wp2_with fail
  go_ret
  exact ⟨rfl, rfl⟩
set_option maxHeartbeats 2000000 in
set_option maxRecDepth 20000 in
theorem checkLost_two_d (ss : List ByteArray) (n m : Nat) (ao : Option Addr) (cap : Nat) (p q : ByteArray) (a b : Int) (lo : Option Addr) (lc : Nat) (w : World) (h : StrsIn w ao n ss) (hr : Right ss n m) (hc : chkP ss = 0)
    (hp : p.size = m) (hq : q.size = m) (a1 : decide (a < 0) = false) (a2 : decide ((n : Int) ≤ a) = false) (b1 : decide (b < 0) = false) (b2 : decide ((n : Int) ≤ b) = true) (hL : Reads w lo ([a, b].map (Value.int .i64))) :
    Calls Try.prog 53 #[.slice ao n cap, .string p, .string q, .slice lo 2 lc] w fun e w' => e = .returned (.int .i64 1) ∧ w = w' := by
  have CC := Lib.hid (pair_check ss n ao cap w h)
  rw [hc] at CC
  obtain ⟨b0, o0, s0, rfl, c0, hz0⟩ := head_cell hr h.2.2.2
  have n0 : 0 < n := hr.n1
  have m64 := hr.m64
  have n10 := hr.n10
  have d1 : ((p.size : Int) == (s0.size : Int)) = true := by simp; omega
  have d1n : ((p.size : Int) != (s0.size : Int)) = false := by rw [bne, d1]; rfl
  have d2 : ((q.size : Int) == (s0.size : Int)) = true := by simp; omega
  have d2n : ((q.size : Int) != (s0.size : Int)) = false := by rw [bne, d2]; rfl
  obtain ⟨lb, lof, rfl, lc0⟩ := lost_at hL (i := 0) (a := a) rfl
  rw [Nat.add_zero] at lc0
  obtain ⟨lb1, lof1, hla, lc1⟩ := lost_at hL (i := 1) (a := b) rfl
  cases hla
  clear hc h hr hp hq hz0 hL
  go_enter Try.func53, Try.ntmps53
  go_wp2_with fail
  (with_reducible refine CC.out.mono ?_)
  rintro e w1 ⟨rfl, rfl⟩
  go_wp2_with fail
  refine wp_loop_rounds 2 ?_
  rw [rounds_succ]
  go_wp2_with fail
  rw [rounds_succ]
  go_wp2_with fail
  go_ret
  exact ⟨rfl, rfl⟩
set_option maxHeartbeats 2000000 in
set_option maxRecDepth 20000 in
theorem checkLost_two_e (ss : List ByteArray) (n m : Nat) (ao : Option Addr) (cap : Nat) (p q : ByteArray) (a b : Int) (lo : Option Addr) (lc : Nat) (w : World) (h : StrsIn w ao n ss) (hr : Right ss n m) (hc : chkP ss = 0)
    (hp : p.size = m) (hq : q.size = m) (a1 : decide (a < 0) = false) (a2 : decide ((n : Int) ≤ a) = false) (b1 : decide (b < 0) = false) (b2 : decide ((n : Int) ≤ b) = false) (ab : (b == a) = true) (hL : Reads w lo ([a, b].map (Value.int .i64))) :
    Calls Try.prog 53 #[.slice ao n cap, .string p, .string q, .slice lo 2 lc] w fun e w' => e = .returned (.int .i64 6) ∧ w = w' := by
  have CC := Lib.hid (pair_check ss n ao cap w h)
  rw [hc] at CC
  obtain ⟨b0, o0, s0, rfl, c0, hz0⟩ := head_cell hr h.2.2.2
  have n0 : 0 < n := hr.n1
  have m64 := hr.m64
  have n10 := hr.n10
  have d1 : ((p.size : Int) == (s0.size : Int)) = true := by simp; omega
  have d1n : ((p.size : Int) != (s0.size : Int)) = false := by rw [bne, d1]; rfl
  have d2 : ((q.size : Int) == (s0.size : Int)) = true := by simp; omega
  have d2n : ((q.size : Int) != (s0.size : Int)) = false := by rw [bne, d2]; rfl
  obtain ⟨lb, lof, rfl, lc0⟩ := lost_at hL (i := 0) (a := a) rfl
  rw [Nat.add_zero] at lc0
  obtain ⟨lb1, lof1, hla, lc1⟩ := lost_at hL (i := 1) (a := b) rfl
  cases hla
  clear hc h hr hp hq hz0 hL
  go_enter Try.func53, Try.ntmps53
  go_wp2_with fail
  (with_reducible refine CC.out.mono ?_)
  rintro e w1 ⟨rfl, rfl⟩
  go_wp2_with fail
  refine wp_loop_rounds 2 ?_
  rw [rounds_succ]
  go_wp2_with fail
  rw [rounds_succ]
  go_wp2_with fail
  go_ret
  exact ⟨rfl, rfl⟩
set_option maxHeartbeats 2000000 in
set_option maxRecDepth 20000 in
theorem checkLost_two_ok (ss : List ByteArray) (n m : Nat) (ao : Option Addr) (cap : Nat) (p q : ByteArray) (a b : Int) (lo : Option Addr) (lc : Nat) (w : World) (h : StrsIn w ao n ss) (hr : Right ss n m) (hc : chkP ss = 0)
    (hp : p.size = m) (hq : q.size = m) (a1 : decide (a < 0) = false) (a2 : decide ((n : Int) ≤ a) = false) (b1 : decide (b < 0) = false) (b2 : decide ((n : Int) ≤ b) = false) (ab : (b == a) = false) (hL : Reads w lo ([a, b].map (Value.int .i64))) :
    Calls Try.prog 53 #[.slice ao n cap, .string p, .string q, .slice lo 2 lc] w fun e w' => e = .returned (.int .i64 0) ∧ w = w' := by
  have CC := Lib.hid (pair_check ss n ao cap w h)
  rw [hc] at CC
  obtain ⟨b0, o0, s0, rfl, c0, hz0⟩ := head_cell hr h.2.2.2
  have n0 : 0 < n := hr.n1
  have m64 := hr.m64
  have n10 := hr.n10
  have d1 : ((p.size : Int) == (s0.size : Int)) = true := by simp; omega
  have d1n : ((p.size : Int) != (s0.size : Int)) = false := by rw [bne, d1]; rfl
  have d2 : ((q.size : Int) == (s0.size : Int)) = true := by simp; omega
  have d2n : ((q.size : Int) != (s0.size : Int)) = false := by rw [bne, d2]; rfl
  obtain ⟨lb, lof, rfl, lc0⟩ := lost_at hL (i := 0) (a := a) rfl
  rw [Nat.add_zero] at lc0
  obtain ⟨lb1, lof1, hla, lc1⟩ := lost_at hL (i := 1) (a := b) rfl
  cases hla
  clear hc h hr hp hq hz0 hL
  go_enter Try.func53, Try.ntmps53
  go_wp2_with fail
  (with_reducible refine CC.out.mono ?_)
  rintro e w1 ⟨rfl, rfl⟩
  go_wp2_with fail
  refine wp_loop_rounds 3 ?_
  rw [rounds_succ]
  go_wp2_with fail
  rw [rounds_succ]
  go_wp2_with fail
  rw [rounds_succ]
  go_wp2_with fail
  go_ret
  exact ⟨rfl, rfl⟩
theorem checkLost_many (ss : List ByteArray) (n m : Nat) (ao : Option Addr) (cap : Nat) (p q : ByteArray) (ln : Nat) (lo : Option Addr) (lc : Nat) (w : World) (h : StrsIn w ao n ss) (hr : Right ss n m) (hc : chkP ss = 0)
    (hp : p.size = m) (hq : q.size = m) (hl : 2 < ln) (hl2 : ln ≤ 9223372036854775807) :
    Calls Try.prog 53 #[.slice ao n cap, .string p, .string q, .slice lo ln lc] w fun e w' => e = .returned (.int .i64 9) ∧ w = w' := by
  have CC := Lib.hid (pair_check ss n ao cap w h)
  rw [hc] at CC
  obtain ⟨b0, o0, s0, rfl, c0, hz0⟩ := head_cell hr h.2.2.2
  have n0 : 0 < n := hr.n1
  have m64 := hr.m64
  have n10 := hr.n10
  have d1 : ((p.size : Int) == (s0.size : Int)) = true := by simp; omega
  have d1n : ((p.size : Int) != (s0.size : Int)) = false := by rw [bne, d1]; rfl
  have d2 : ((q.size : Int) == (s0.size : Int)) = true := by simp; omega
  have d2n : ((q.size : Int) != (s0.size : Int)) = false := by rw [bne, d2]; rfl
  have d3 : decide ((2 : Int) < ln) = true := by simp; omega
  clear hc h hr hp hq hz0
  go_enter Try.func53, Try.ntmps53
  go_wp2_with fail
  (with_reducible refine CC.out.mono ?_)
  rintro e w1 ⟨rfl, rfl⟩
  go_wp2_with fail
  go_ret
  exact ⟨rfl, rfl⟩
theorem checkLost_any (ss : List ByteArray) (n m : Nat) (ao : Option Addr) (cap : Nat) (p q : ByteArray) (lost : List Int) (ln : Nat) (lo : Option Addr) (lc : Nat) (w : World) (h : StrsIn w ao n ss) (hr : Right ss n m) (hc : chkP ss = 0)
    (hp : p.size = m) (hq : q.size = m) (hl : lost.length = ln) (hl2 : ln ≤ 9223372036854775807) (hL : Reads w lo (lost.map (Value.int .i64))) :
    Calls Try.prog 53 #[.slice ao n cap, .string p, .string q, .slice lo ln lc] w fun e w' => e = .returned (.int .i64 (lostE n lost : Nat)) ∧ w = w' := by
  match lost, hl, hL with
  | [], hl, hL =>
    obtain rfl : ln = 0 := by simpa using hl.symm
    exact checkLost_nil ss n m ao cap p q lo lc w h hr hc hp hq
  | [a], hl, hL =>
    obtain rfl : ln = 1 := by simpa using hl.symm
    by_cases h1 : a < 0
    · have e : lostE n [a] = 1 := by simp [lostE, h1]
      rw [e]
      exact checkLost_one_a ss n m ao cap p q a lo lc w h hr hc hp hq (decide_eq_true h1) hL
    by_cases h2 : (n : Int) ≤ a
    · have e : lostE n [a] = 1 := by simp [lostE, h2]
      rw [e]
      exact checkLost_one_b ss n m ao cap p q a lo lc w h hr hc hp hq (decide_eq_false h1) (decide_eq_true h2) hL
    have e : lostE n [a] = 0 := by simp only [lostE]; rw [if_neg (by omega)]
    rw [e]
    exact checkLost_one_ok ss n m ao cap p q a lo lc w h hr hc hp hq (decide_eq_false h1) (decide_eq_false h2) hL
  | [a, b], hl, hL =>
    obtain rfl : ln = 2 := by simpa using hl.symm
    by_cases h1 : a < 0
    · have e : lostE n [a, b] = 1 := by simp [lostE, h1]
      rw [e]
      exact checkLost_two_a ss n m ao cap p q a b lo lc w h hr hc hp hq (decide_eq_true h1) hL
    by_cases h2 : (n : Int) ≤ a
    · have e : lostE n [a, b] = 1 := by simp [lostE, h2]
      rw [e]
      exact checkLost_two_b ss n m ao cap p q a b lo lc w h hr hc hp hq (decide_eq_false h1) (decide_eq_true h2) hL
    by_cases h3 : b < 0
    · have e : lostE n [a, b] = 1 := by simp only [lostE]; rw [if_neg (by omega), if_pos (by omega)]
      rw [e]
      exact checkLost_two_c ss n m ao cap p q a b lo lc w h hr hc hp hq (decide_eq_false h1) (decide_eq_false h2) (decide_eq_true h3) hL
    by_cases h4 : (n : Int) ≤ b
    · have e : lostE n [a, b] = 1 := by simp only [lostE]; rw [if_neg (by omega), if_pos (by omega)]
      rw [e]
      exact checkLost_two_d ss n m ao cap p q a b lo lc w h hr hc hp hq (decide_eq_false h1) (decide_eq_false h2) (decide_eq_false h3) (decide_eq_true h4) hL
    by_cases h5 : b = a
    · have e : lostE n [a, b] = 6 := by simp only [lostE]; rw [if_neg (by omega), if_neg (by omega), if_pos h5]
      rw [e]
      exact checkLost_two_e ss n m ao cap p q a b lo lc w h hr hc hp hq (decide_eq_false h1) (decide_eq_false h2) (decide_eq_false h3) (decide_eq_false h4) (by simp [h5]) hL
    have e : lostE n [a, b] = 0 := by simp only [lostE]; rw [if_neg (by omega), if_neg (by omega), if_neg h5]
    rw [e]
    exact checkLost_two_ok ss n m ao cap p q a b lo lc w h hr hc hp hq (decide_eq_false h1) (decide_eq_false h2) (decide_eq_false h3) (decide_eq_false h4) (by simp [h5]) hL
  | a :: b :: c :: t, hl, hL =>
    have e : lostE n (a :: b :: c :: t) = 9 := rfl
    rw [e]
    exact checkLost_many ss n m ao cap p q ln lo lc w h hr hc hp hq (by simp at hl; omega) hl2
end Go.Proofs.Ythnbhhfbmkklmaa
