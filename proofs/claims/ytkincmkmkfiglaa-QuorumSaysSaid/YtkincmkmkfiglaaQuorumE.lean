/- Contract of quorum.Meet. -/
import Derived.Test.YtkincmkmkfiglaaRows
import Derived.Test.YtkincmkmkfiglaaQuorumD
import Derived.Handy
namespace Go.Proofs.Ytkincmkmkfiglaa
open Go.RowKit

set_option maxRecDepth 100000 in
set_option maxHeartbeats 4000000 in
theorem quorum_Meet (n k wr r : Int) (a b : Nat) (w : World) (ha : a < 65536) (hb : b < 65536) :
    Calls Try.prog 16 #[qV n k wr r, .int .u16 a, .int .u16 b] w fun e w' => e = .returned (.tuple #[.int .i64 (meetI n k wr r a b).1, .int .i64 (meetI n k wr r a b).2]) ∧ Below w.heap.size w w' := by
  have hbx := Lib.hid (below_alloc w (.cells #[.int .i64 n, .int .i64 k, .int .i64 wr, .int .i64 r] 23))
  obtain ⟨w0, hw0⟩ : ∃ w0, w.alloc (.cells #[.int .i64 n, .int .i64 k, .int .i64 wr, .int .i64 r] 23) = w0 := ⟨_, rfl⟩
  have g0 : w0.cell? ⟨w.heap.size, 0, none⟩ = some (.int .i64 n) := by rw [← hw0]; simp [World.cell?_alloc_new]
  have g1 : w0.cell? ⟨w.heap.size, 1, none⟩ = some (.int .i64 k) := by rw [← hw0]; simp [World.cell?_alloc_new]
  have g2 : w0.cell? ⟨w.heap.size, 2, none⟩ = some (.int .i64 wr) := by rw [← hw0]; simp [World.cell?_alloc_new]
  have g3 : w0.cell? ⟨w.heap.size, 3, none⟩ = some (.int .i64 r) := by rw [← hw0]; simp [World.cell?_alloc_new]
  have HC := Lib.hid (quorum_Check n k wr r w0)
  rw [hw0] at hbx
  have HW0 := Lib.hid hw0
  clear hw0
  obtain ⟨E, hE⟩ : ∃ E, qErr n k wr r = E := ⟨_, rfl⟩
  rw [hE] at HC
  by_cases hE0 : E = 0
  · obtain ⟨n1, n2, k1, k2, w1, w2, r1, r2⟩ := q_ok (hE.trans hE0)
    obtain ⟨N, rfl⟩ : ∃ N : Nat, n = N := ⟨n.toNat, by omega⟩
    obtain ⟨T, hT⟩ : ∃ T, 2 ^ N = T := ⟨_, rfl⟩
    have hT1 : T ≤ 1024 := by rw [← hT]; exact Nat.pow_le_pow_right (n := 2) (by omega) (show N ≤ 10 by omega)
    have eT : IntKind.i64.wrap ((2 : Int) ^ N) = (T : Int) := by
      have : ((2 : Int) ^ N) = (T : Int) := by rw [← hT, Int.natCast_pow]; rfl
      rw [this]; exact IntWalk.i64_in _ (by omega)
    have hNt : ((N : Int)).toNat = N := by omega
    have hmc := meet_cases (N : Int) k wr r a b (hE.trans hE0)
    rw [hNt, hT] at hmc
    have HA := Lib.hid (fun W => bits_OnesCount16 a W ha)
    have HB := Lib.hid (fun W => bits_OnesCount16 b W hb)
    have hab : a &&& b < 65536 := Nat.lt_of_le_of_lt Nat.and_le_left ha
    have HAB := Lib.hid (fun W => bits_OnesCount16 (a &&& b) W hab)
    have eab := u16_and_nat a b ha hb
    obtain ⟨c, hc⟩ : ∃ c, a &&& b = c := ⟨_, rfl⟩
    rw [hc] at HAB eab hmc
    obtain ⟨x, hx⟩ : ∃ x, ones16 a = x := ⟨_, rfl⟩
    obtain ⟨y, hy⟩ : ∃ y, ones16 b = y := ⟨_, rfl⟩
    obtain ⟨z, hz⟩ : ∃ z, ones16 c = z := ⟨_, rfl⟩
    rw [hx] at HA hmc
    rw [hy] at HB hmc
    rw [hz] at HAB hmc
    subst hE0
    obtain ⟨V, hV⟩ : ∃ V, meetI (N : Int) k wr r a b = V := ⟨_, rfl⟩
    rw [hV] at hmc ⊢
    have wa : IntKind.i64.wrap (a : Int) = (a : Int) := IntWalk.i64_in _ (by omega)
    have wb : IntKind.i64.wrap (b : Int) = (b : Int) := IntWalk.i64_in _ (by omega)
    clear hE hx hy hz hc hT hV hNt
    rcases hmc with ⟨m1, rfl⟩ | ⟨m1, m2, rfl⟩ | ⟨m1, m2, m3, rfl⟩ | ⟨m1, m2, m3, m4, rfl⟩ | ⟨m1, m2, m3, m4, rfl⟩
    · have f1 : decide ((T : Int) ≤ (a : Int)) = true := by simp; omega
      have f1' : decide (T ≤ a) = true := by simp; omega
      go_enter Try.func16, Try.ntmps16
      go_wp2_with fail
      rw [HW0.out]
      refine HC.out.mono ?_
      rintro e w1 ⟨rfl, hb1⟩
      have HB1 := Lib.hid (hbx.out.trans (Below.mono hb1 hbx.out.size))
      have k0 := (hb1.cell (World.block_lt_of_cell? w0 _ g0)).trans g0
      have k2 := (hb1.cell (World.block_lt_of_cell? w0 _ g2)).trans g2
      have k3 := (hb1.cell (World.block_lt_of_cell? w0 _ g3)).trans g3
      clear hb1 g0 g1 g2 g3
      go_wp2_with fail
      go_ret2
      exact ⟨rfl, HB1.out⟩
    · have f1 : decide ((T : Int) ≤ (a : Int)) = false := by simp; omega
      have f1' : decide (T ≤ a) = false := by simp; omega
      have f2 : decide ((T : Int) ≤ (b : Int)) = true := by simp; omega
      have f2' : decide (T ≤ b) = true := by simp; omega
      go_enter Try.func16, Try.ntmps16
      go_wp2_with fail
      rw [HW0.out]
      refine HC.out.mono ?_
      rintro e w1 ⟨rfl, hb1⟩
      have HB1 := Lib.hid (hbx.out.trans (Below.mono hb1 hbx.out.size))
      have k0 := (hb1.cell (World.block_lt_of_cell? w0 _ g0)).trans g0
      have k2 := (hb1.cell (World.block_lt_of_cell? w0 _ g2)).trans g2
      have k3 := (hb1.cell (World.block_lt_of_cell? w0 _ g3)).trans g3
      clear hb1 g0 g1 g2 g3
      go_wp2_with fail
      go_ret2
      exact ⟨rfl, HB1.out⟩
    · have f1 : decide ((T : Int) ≤ (a : Int)) = false := by simp; omega
      have f1' : decide (T ≤ a) = false := by simp; omega
      have f2 : decide ((T : Int) ≤ (b : Int)) = false := by simp; omega
      have f2' : decide (T ≤ b) = false := by simp; omega
      have f3 : decide ((x : Int) < wr) = true := decide_eq_true m3
      go_enter Try.func16, Try.ntmps16
      go_wp2_with fail
      rw [HW0.out]
      refine HC.out.mono ?_
      rintro e w1 ⟨rfl, hb1⟩
      have HB1 := Lib.hid (hbx.out.trans (Below.mono hb1 hbx.out.size))
      have k0 := (hb1.cell (World.block_lt_of_cell? w0 _ g0)).trans g0
      have k2 := (hb1.cell (World.block_lt_of_cell? w0 _ g2)).trans g2
      have k3 := (hb1.cell (World.block_lt_of_cell? w0 _ g3)).trans g3
      clear hb1 g0 g1 g2 g3
      go_wp2_with fail
      go_quiet ((go_at_call 89; (first | (with_reducible exact quiet_on (fun W' => HA.out W')) | (with_reducible exact quiet_at (fun W' => HA.out W')) | (with_reducible exact quiet_on (fun W' => HB.out W')) | (with_reducible exact quiet_at (fun W' => HB.out W')))))
      go_wp2_with fail
      go_ret2
      exact ⟨rfl, below_drewN HB1.out _⟩
    · have f1 : decide ((T : Int) ≤ (a : Int)) = false := by simp; omega
      have f1' : decide (T ≤ a) = false := by simp; omega
      have f2 : decide ((T : Int) ≤ (b : Int)) = false := by simp; omega
      have f2' : decide (T ≤ b) = false := by simp; omega
      have f3 : decide ((x : Int) < wr) = false := decide_eq_false (by omega)
      have f4 : decide ((y : Int) < r) = true := decide_eq_true m4
      go_enter Try.func16, Try.ntmps16
      go_wp2_with fail
      rw [HW0.out]
      refine HC.out.mono ?_
      rintro e w1 ⟨rfl, hb1⟩
      have HB1 := Lib.hid (hbx.out.trans (Below.mono hb1 hbx.out.size))
      have k0 := (hb1.cell (World.block_lt_of_cell? w0 _ g0)).trans g0
      have k2 := (hb1.cell (World.block_lt_of_cell? w0 _ g2)).trans g2
      have k3 := (hb1.cell (World.block_lt_of_cell? w0 _ g3)).trans g3
      clear hb1 g0 g1 g2 g3
      go_wp2_with fail
      go_quiet ((go_at_call 89; (first | (with_reducible exact quiet_on (fun W' => HA.out W')) | (with_reducible exact quiet_at (fun W' => HA.out W')) | (with_reducible exact quiet_on (fun W' => HB.out W')) | (with_reducible exact quiet_at (fun W' => HB.out W')))))
      go_wp2_with fail
      go_ret2
      exact ⟨rfl, below_drewN HB1.out _⟩
    · have f1 : decide ((T : Int) ≤ (a : Int)) = false := by simp; omega
      have f1' : decide (T ≤ a) = false := by simp; omega
      have f2 : decide ((T : Int) ≤ (b : Int)) = false := by simp; omega
      have f2' : decide (T ≤ b) = false := by simp; omega
      have f3 : decide ((x : Int) < wr) = false := decide_eq_false (by omega)
      have f4 : decide ((y : Int) < r) = false := decide_eq_false (by omega)
      go_enter Try.func16, Try.ntmps16
      go_wp2_with fail
      rw [HW0.out]
      refine HC.out.mono ?_
      rintro e w1 ⟨rfl, hb1⟩
      have HB1 := Lib.hid (hbx.out.trans (Below.mono hb1 hbx.out.size))
      have k0 := (hb1.cell (World.block_lt_of_cell? w0 _ g0)).trans g0
      have k2 := (hb1.cell (World.block_lt_of_cell? w0 _ g2)).trans g2
      have k3 := (hb1.cell (World.block_lt_of_cell? w0 _ g3)).trans g3
      clear hb1 g0 g1 g2 g3
      go_wp2_with fail
      go_quiet ((go_at_call 89; (first | (with_reducible exact quiet_on (fun W' => HA.out W')) | (with_reducible exact quiet_at (fun W' => HA.out W')) | (with_reducible exact quiet_on (fun W' => HB.out W')) | (with_reducible exact quiet_at (fun W' => HB.out W')))))
      go_wp2_with fail
      refine (HAB.out _).mono ?_
      rintro e w' ⟨rfl, q, rfl⟩
      go_wp2_with fail
      go_ret2
      exact ⟨rfl, by repeat (first | exact HB1.out | apply below_drewN)⟩
  · have hm : meetI n k wr r a b = (0, E) := by unfold meetI; rw [hE, if_pos hE0]
    rw [hm]
    have d : (E != 0) = true := by simpa using hE0
    clear hm hE hE0
    go_enter Try.func16, Try.ntmps16
    go_wp2_with fail
    rw [HW0.out]
    refine HC.out.mono ?_
    rintro e w1 ⟨rfl, hb1⟩
    have HB1 := Lib.hid (hbx.out.trans (Below.mono hb1 hbx.out.size))
    clear hb1
    go_wp2_with fail
    go_ret2
    exact ⟨rfl, HB1.out⟩
end Go.Proofs.Ytkincmkmkfiglaa
