/- package store: Do at get and at scrub. (Printed by a small program.) -/
import Derived.Test.YtioecklnijhjgaaHlM40
import Derived.Test.YtioecklnijhjgaaStore5
namespace Go.Proofs.Ytioecklnijhjgaa
open Go.RowKit

theorem Shf.under {w : World} {base : Nat} {Av : Nat → Prop} {n k wr r b nb : Nat} {st : St} (h : ∃ V', Shf w base Av n k wr r b nb V' st) (o : Obj) : ∃ V', Shf (w.alloc o) base Av n k wr r b nb V' st := by
  obtain ⟨V', h⟩ := h
  exact ⟨V', h.below (below_alloc _ _)⟩
theorem Kept.under {w0 w : World} {base : Nat} {Av : Nat → Prop} (h : Kept Av base w0 w) (hb : base ≤ w.heap.size) (hA : ∀ g, Av g → g < w.heap.size) (o : Obj) : Kept Av base w0 (w.alloc o) :=
  h.trans (Kept.of_below (below_alloc _ _) hb hA)
set_option maxRecDepth 100000 in
set_option maxHeartbeats 4000000 in
theorem store_Do_get {w : World} {base : Nat} {Av : Nat → Prop} {n k wr0 r b nb : Nat} {V : Nat → Nat → Value} {st : St} (key : Nat) (m : Int) (text : ByteArray) (hkey : key < 3) (hk1 : 1 ≤ k) (hkn : k ≤ n) (hn : n ≤ 10) (h : Shf w base Av n k wr0 r b nb V st) :
    Calls Try.prog 8 #[.pointer (some ⟨b, 0, none⟩), deedV 3 (key : Int) m text] w (DoPost base Av n k wr0 r b nb ((readF n k wr0 r st key).1, ⟨(readF n k wr0 r st key).2.1.tx, (readF n k wr0 r st key).2.1.at', 0⟩, (readF n k wr0 r st key).2.2) w) := by
  obtain ⟨W1, hd⟩ := do_at h 3 (key : Int) m text
  have HD := Lib.hid hd
  have hW1 := hd.eqn
  have d0 := heap_cell hd.d 0
  have d1 := heap_cell hd.d 1
  have d2 := heap_cell hd.d 2
  have d3 := heap_cell hd.d 3
  simp only [List.getElem?_toArray, List.getElem?_cons_zero, List.getElem?_cons_succ] at d0 d1 d2 d3
  have CK := Lib.hid (fun W => store_isKey (key : Int) W)
  unfold BoolQ at CK
  rw [show (decide (0 ≤ (key : Int)) && decide ((key : Int) < 3)) = true by simp; omega] at CK
  have CP := Lib.hid (store_read key hkey hk1 hkn hn hd.s)
  unfold ReadPost at CP
  obtain ⟨R, hR⟩ : ∃ R, readF n k wr0 r st key = R := ⟨_, rfl⟩
  rw [hR] at CP ⊢
  obtain ⟨st2, ⟨tx, ta, tm⟩, E⟩ := R
  dsimp only at CP ⊢
  clear hR hd h
  go_enter Try.func8, Try.ntmps8
  go_wp2_with (go_at_call 18; (with_reducible refine (CK.out _).mono ?_); rintro e w2 ⟨rfl, rfl⟩)
  (with_reducible refine CP.out.mono ?_)
  clear hW1
  rintro e w2 ⟨rfl, ⟨V2, hS2⟩, hK2⟩
  have hdn := HD.out.done hS2 hK2 (.string tx) (.int .i64 (ta : Int)) (.int .i64 0) (.int .i64 0)
  have hR2 := (Array.getElem?_eq_some_iff.1 hdn.2).1
  have r0 := heap_cell hdn.2 0
  have r1 := heap_cell hdn.2 1
  have r2' := heap_cell hdn.2 2
  have r3 := heap_cell hdn.2 3
  simp only [List.getElem?_toArray, List.getElem?_cons_zero, List.getElem?_cons_succ] at r0 r1 r2' r3
  have f0 := heap_frozen hdn.2 0
  have f1 := heap_frozen hdn.2 1
  have f2 := heap_frozen hdn.2 2
  have f3 := heap_frozen hdn.2 3
  obtain ⟨tc0, tc1, tc2, tc3⟩ := told_cells hdn.2 (.string tx) (.int .i64 (ta : Int)) (.int .i64 0) (.int .i64 0)
  obtain ⟨WR, hWR⟩ : ∃ WR, (((w2.setCell ⟨w.heap.size + 1, 0, none⟩ (.string tx)).setCell ⟨w.heap.size + 1, 1, none⟩ (.int .i64 (ta : Int))).setCell ⟨w.heap.size + 1, 2, none⟩ (.int .i64 0)).setCell ⟨w.heap.size + 1, 3, none⟩ (.int .i64 0) = WR := ⟨_, rfl⟩
  rw [hWR] at tc0 tc1 tc2 tc3 hdn
  have hb := below_alloc WR (.cells #[.string tx, .int .i64 (ta : Int), .int .i64 0, .int .i64 0] 40)
  have e0 := (hb.cell (p := ⟨w.heap.size + 1, 0, none⟩) (World.block_lt_of_cell? _ _ tc0)).trans tc0
  have e1 := (hb.cell (p := ⟨w.heap.size + 1, 1, none⟩) (World.block_lt_of_cell? _ _ tc1)).trans tc1
  have e2 := (hb.cell (p := ⟨w.heap.size + 1, 2, none⟩) (World.block_lt_of_cell? _ _ tc2)).trans tc2
  have e3 := (hb.cell (p := ⟨w.heap.size + 1, 3, none⟩) (World.block_lt_of_cell? _ _ tc3)).trans tc3
  have HN : Hid ((∃ V', Shf (WR.alloc (.cells #[.string tx, .int .i64 (ta : Int), .int .i64 0, .int .i64 0] 40)) base Av n k wr0 r b nb V' st2) ∧ Kept Av base w (WR.alloc (.cells #[.string tx, .int .i64 (ta : Int), .int .i64 0, .int .i64 0] 40))) := Lib.hid (by
    obtain ⟨⟨V', h1⟩, h2⟩ := hdn.1
    exact ⟨Shf.under ⟨V', h1⟩ _, h2.under (Nat.le_trans h1.hb (Nat.le_of_lt h1.blt)) h1.avlt _⟩)
  rw [← hWR] at e0 e1 e2 e3 HN
  clear hS2 hK2 hdn hb tc0 tc1 tc2 tc3 hWR
  go_wp2_with fail
  refine bodyPost_ret (v := .tuple #[.agg #[(.string tx), (.int .i64 (ta : Int)), .int .i64 0, (.int .i64 0)], .int .i64 (E : Nat)]) (by simp [results, Try.results8, go_sem, e0, e1, e2, e3]; try rfl) rfl ?_
  exact ⟨rfl, HN.out⟩
set_option maxRecDepth 100000 in
set_option maxHeartbeats 4000000 in
theorem store_Do_scrub {w : World} {base : Nat} {Av : Nat → Prop} {n k wr0 r b nb : Nat} {V : Nat → Nat → Value} {st : St} (key : Nat) (m : Int) (text : ByteArray) (hkey : key < 3) (hk1 : 1 ≤ k) (hkn : k ≤ n) (hn : n ≤ 10) (h : Shf w base Av n k wr0 r b nb V st) :
    Calls Try.prog 8 #[.pointer (some ⟨b, 0, none⟩), deedV 8 (key : Int) m text] w (DoPost base Av n k wr0 r b nb ((readF n k wr0 r st key).1, ⟨ByteArray.empty, 0, (readF n k wr0 r st key).2.1.mn⟩, (readF n k wr0 r st key).2.2) w) := by
  obtain ⟨W1, hd⟩ := do_at h 8 (key : Int) m text
  have HD := Lib.hid hd
  have hW1 := hd.eqn
  have d0 := heap_cell hd.d 0
  have d1 := heap_cell hd.d 1
  have d2 := heap_cell hd.d 2
  have d3 := heap_cell hd.d 3
  simp only [List.getElem?_toArray, List.getElem?_cons_zero, List.getElem?_cons_succ] at d0 d1 d2 d3
  have CK := Lib.hid (fun W => store_isKey (key : Int) W)
  unfold BoolQ at CK
  rw [show (decide (0 ≤ (key : Int)) && decide ((key : Int) < 3)) = true by simp; omega] at CK
  have CP := Lib.hid (store_read key hkey hk1 hkn hn hd.s)
  unfold ReadPost at CP
  obtain ⟨R, hR⟩ : ∃ R, readF n k wr0 r st key = R := ⟨_, rfl⟩
  rw [hR] at CP ⊢
  obtain ⟨st2, ⟨tx, ta, tm⟩, E⟩ := R
  dsimp only at CP ⊢
  clear hR hd h
  go_enter Try.func8, Try.ntmps8
  go_wp2_with (go_at_call 18; (with_reducible refine (CK.out _).mono ?_); rintro e w2 ⟨rfl, rfl⟩)
  (with_reducible refine CP.out.mono ?_)
  clear hW1
  rintro e w2 ⟨rfl, ⟨V2, hS2⟩, hK2⟩
  have hdn := HD.out.done hS2 hK2 (.string ⟨#[]⟩) (.int .i64 0) (.int .i64 0) (.int .i64 (tm : Int))
  have hR2 := (Array.getElem?_eq_some_iff.1 hdn.2).1
  have r0 := heap_cell hdn.2 0
  have r1 := heap_cell hdn.2 1
  have r2' := heap_cell hdn.2 2
  have r3 := heap_cell hdn.2 3
  simp only [List.getElem?_toArray, List.getElem?_cons_zero, List.getElem?_cons_succ] at r0 r1 r2' r3
  have f0 := heap_frozen hdn.2 0
  have f1 := heap_frozen hdn.2 1
  have f2 := heap_frozen hdn.2 2
  have f3 := heap_frozen hdn.2 3
  obtain ⟨tc0, tc1, tc2, tc3⟩ := told_cells hdn.2 (.string ⟨#[]⟩) (.int .i64 0) (.int .i64 0) (.int .i64 (tm : Int))
  obtain ⟨WR, hWR⟩ : ∃ WR, (((w2.setCell ⟨w.heap.size + 1, 0, none⟩ (.string ⟨#[]⟩)).setCell ⟨w.heap.size + 1, 1, none⟩ (.int .i64 0)).setCell ⟨w.heap.size + 1, 2, none⟩ (.int .i64 0)).setCell ⟨w.heap.size + 1, 3, none⟩ (.int .i64 (tm : Int)) = WR := ⟨_, rfl⟩
  rw [hWR] at tc0 tc1 tc2 tc3 hdn
  have hb := below_alloc WR (.cells #[.string tx, .int .i64 (ta : Int), .int .i64 0, .int .i64 0] 40)
  have e0 := (hb.cell (p := ⟨w.heap.size + 1, 0, none⟩) (World.block_lt_of_cell? _ _ tc0)).trans tc0
  have e1 := (hb.cell (p := ⟨w.heap.size + 1, 1, none⟩) (World.block_lt_of_cell? _ _ tc1)).trans tc1
  have e2 := (hb.cell (p := ⟨w.heap.size + 1, 2, none⟩) (World.block_lt_of_cell? _ _ tc2)).trans tc2
  have e3 := (hb.cell (p := ⟨w.heap.size + 1, 3, none⟩) (World.block_lt_of_cell? _ _ tc3)).trans tc3
  have HN : Hid ((∃ V', Shf (WR.alloc (.cells #[.string tx, .int .i64 (ta : Int), .int .i64 0, .int .i64 0] 40)) base Av n k wr0 r b nb V' st2) ∧ Kept Av base w (WR.alloc (.cells #[.string tx, .int .i64 (ta : Int), .int .i64 0, .int .i64 0] 40))) := Lib.hid (by
    obtain ⟨⟨V', h1⟩, h2⟩ := hdn.1
    exact ⟨Shf.under ⟨V', h1⟩ _, h2.under (Nat.le_trans h1.hb (Nat.le_of_lt h1.blt)) h1.avlt _⟩)
  rw [← hWR] at e0 e1 e2 e3 HN
  clear hS2 hK2 hdn hb tc0 tc1 tc2 tc3 hWR
  go_wp2_with fail
  refine bodyPost_ret (v := .tuple #[.agg #[(.string ⟨#[]⟩), (.int .i64 0), .int .i64 0, (.int .i64 (tm : Int))], .int .i64 (E : Nat)]) (by simp [results, Try.results8, go_sem, e0, e1, e2, e3]; try rfl) rfl ?_
  exact ⟨rfl, HN.out⟩
end Go.Proofs.Ytioecklnijhjgaa
namespace Go.Proofs.Ytioecklnijhjgaa

/-- A power modulo m. -/
def pwm (a : Int) (n : Nat) (m : Int) : Int := a ^ n % m
theorem pow_emod (a m : Int) (n : Nat) : (a % m) ^ n % m = a ^ n % m := by
  induction n with
  | zero => simp
  | succ n ih => rw [Int.pow_succ, Int.pow_succ, Int.mul_emod, ih, Int.emod_emod, ← Int.mul_emod]
theorem pwm_mod (a m : Int) (n : Nat) : pwm (a % m) n m = pwm a n m := pow_emod a m n
theorem mul_pow_emod (x y m : Int) (j : Nat) : (x % m * (y % m) ^ j) % m = (x * y ^ j) % m := by
  rw [Int.mul_emod, Int.emod_emod, pow_emod, ← Int.mul_emod]
theorem pwm_nonneg (a : Int) (n : Nat) {m : Int} (hm : 1 ≤ m) : 0 ≤ pwm a n m ∧ pwm a n m < m :=
  ⟨Int.emod_nonneg _ (by omega), Int.emod_lt_of_pos _ (by omega)⟩
theorem sq_pow (a : Int) (j : Nat) : (a * a) ^ j = a ^ (2 * j) := by
  induction j with
  | zero => simp
  | succ j ih => rw [Int.pow_succ, ih, show 2 * (j + 1) = 2 * j + 1 + 1 by omega, Int.pow_succ, Int.pow_succ, Int.mul_assoc]
theorem pow_odd (out A : Int) (m : Int) (k : Nat) (h : k % 2 = 1) : (out * A % m * (A * A % m) ^ (k / 2)) % m = (out * A ^ k) % m := by
  rw [mul_pow_emod, sq_pow, Int.mul_assoc, Int.mul_comm A, ← Int.pow_succ]
  congr 3; omega
theorem pow_even (out A : Int) (m : Int) (k : Nat) (h : k % 2 = 0) : (out * (A * A % m) ^ (k / 2)) % m = (out * A ^ k) % m := by
  have : (out * (A * A % m) ^ (k / 2)) % m = (out % m * (A * A % m) ^ (k / 2)) % m := by
    generalize (A * A % m) ^ (k / 2) = X
    exact (Int.mul_emod out X m).trans (by rw [Int.mul_emod (out % m) X m, Int.emod_emod])
  rw [this, mul_pow_emod, sq_pow]
  congr 3; omega
theorem pwm_half (a : Int) (n : Nat) (m : Int) : pwm a (n / 2) m * pwm a (n / 2) m % m = pwm a (2 * (n / 2)) m := by
  unfold pwm
  rw [← Int.mul_emod, show 2 * (n / 2) = n / 2 + n / 2 by omega, Int.pow_add]
theorem pwm_succ (a : Int) (n : Nat) (m : Int) : pwm a n m * (a % m) % m = pwm a (n + 1) m := by
  unfold pwm
  rw [← Int.mul_emod, Int.pow_succ]
theorem prod_bd {x y M : Int} (hx : 0 ≤ x) (hx' : x ≤ M) (hy : 0 ≤ y) (hy' : y ≤ M) : 0 ≤ x * y ∧ x * y ≤ M * M :=
  ⟨Int.mul_nonneg hx hy, Int.mul_le_mul hx' hy' hy (by omega)⟩
end Go.Proofs.Ytioecklnijhjgaa
