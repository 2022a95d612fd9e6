/- linear.Weights and linear.Far. -/
import Derived.Test.YtmeffbooabionaaLinD
import Derived.Test.YtmeffbooabionaaHmM6
set_option linter.unusedVariables false
set_option linter.unusedSimpArgs false
namespace Go.Proofs.Ytmeffbooabionaa
open Go.RowKit

theorem intInfoL : ElemRow Try.prog 3 (.int .i64 0) 1 8 := elemRow_of (by kernel_rfl) rfl (by omega)
def wtC (W : List Nat) (j : Nat) : Value := .int .i64 (wtN W j : Int)
def WtPost (N : Nat) (W : List Nat) (w : World) (e : Ending) (w' : World) : Prop :=
  ∃ g, e = .returned (.tuple #[.slice (some ⟨g, 0, none⟩) (N + 1 : Nat) (N + 1 : Nat), .int .i64 0]) ∧ Own w' w.heap.size 3 g (N + 1) (N + 1) (wtC W) ∧ Below w.heap.size w w'
theorem wtN_le (W : List Nat) (j : Nat) : wtN W j ≤ W.length := List.countP_le_length
set_option maxRecDepth 100000 in
set_option maxHeartbeats 8000000 in
theorem lin_Weights (N : Nat) (l : List Nat) (ao : Option Addr) (m cap : Nat) (w : World) (hN1 : 1 ≤ N) (hN : N ≤ 12) (hl : l.length = m) (hm : m ≤ 6) (hE : wordE N l = 0) (hR : Hid (Reads w ao (cellsU l))) :
    Calls Try.prog 15 #[.int .i64 N, .slice ao m cap] w (WtPost N (wordsL l) w) := by
  obtain ⟨_, _, _, hltN⟩ := wordE_zero hE
  rw [Int.toNat_natCast] at hltN
  have hlt : ∀ x ∈ l, x < 65536 := fun x hx => Nat.lt_of_lt_of_le (hltN x hx) (Nat.le_trans (two_le16 hN) (by decide))
  have C1 := Lib.hid (lin_Check N l ao m cap w hl (by omega) hlt hR)
  rw [hE] at C1
  have C2 := Lib.hid (fun W h => lin_words m l ao cap W hl hm hlt h)
  have HW : Hid (∀ x ∈ wordsL l, x < 2 ^ N) := fun x hx => allX_lt hltN x ((mem_wordsL l x).1 hx)
  have hWl : (wordsL l).length ≤ 64 := Nat.le_trans (wordsL_len l) (Nat.le_trans (Nat.pow_le_pow_right (by omega) (by rw [hl]; exact hm)) (by decide))
  obtain ⟨X, hX⟩ : ∃ X, wordsL l = X := ⟨_, rfl⟩
  rw [hX] at C2 HW hWl ⊢
  obtain ⟨D, hD⟩ : ∃ D, X.length = D := ⟨_, rfl⟩
  have HD := Lib.hid hD
  rw [hD] at hWl
  unfold WordPost at C2
  rw [hD] at C2
  unfold WtPost
  obtain ⟨M, hM⟩ : ∃ M, N + 1 = M := ⟨_, rfl⟩
  have eM : (N : Int) + 1 = (M : Int) := by omega
  rw [hM]
  have hMN : M ≤ 13 := by omega
  clear hE hl hlt hltN hX hD
  go_enter Try.func15, Try.ntmps15
  go_wp2_with (first
    | (go_at_call 17; (refine C1.out.mono ?_); rintro e w1 ⟨rfl, hb1⟩)
    | (at_make; refine make_own rfl _ _ 32 rfl w1.heap.size 3 _ 8 Try.underlying32 intInfoL rfl _ _ _ _ M (by rfl) (by rfl) rfl rfl (by omega) (by unfold maxLen; omega) (Nat.le_refl _) ?_; intro w2 hown2 hg2; have hb2 := Lib.hid (below_of_grown hg2 (Nat.le_refl w1.heap.size) (by intro k hk; cases hk)))
    | (go_at_call 42; (refine (C2.out _ (hR.out.below (hb1.trans (hb2.out.mono hb1.size)))).mono ?_); rintro e w3 ⟨a2, rfl, hn2, hp2, hR2, hb3⟩)
    | fail)
  obtain ⟨g, hg⟩ : ∃ g, w1.heap.size = g := ⟨_, rfl⟩
  have hwg : w.heap.size ≤ g := by rw [← hg]; exact hb1.size
  rw [hg] at hown2 ⊢
  have hgl := hown2.lt
  have hO3 := Lib.hid ((hown2.below hb3).congr (f' := wtC (X.take 0)) (fun j _ => by unfold wtC wtN; simp))
  have hB3 : Hid (Below w.heap.size w w3) := hb1.trans ((hb2.out.trans (hb3.mono hb2.out.size)).mono (by omega))
  have hR3 := Lib.hid hR2
  have HP : Hid (∀ a, a2 = some a → g < a.block) := fun a h => Nat.lt_of_lt_of_le hgl.2 (hp2 a h)
  clear hown2 hb3 hR2 hp2 hg hgl hb1
  go_loopw [22] (fun vj wr => ∃ (j : Nat), vj = .int .i64 j ∧ j ≤ D ∧ Hid (Own wr g 3 g M M (wtC (X.take j))) ∧ Hid (Reads wr a2 (cellsU X)) ∧ Hid (Below w.heap.size w wr)) (fun vj _ => D - (intOf vj).toNat)
  case atStart => exact ⟨0, rfl, Nat.zero_le _, hO3, hR3, hB3⟩
  case round =>
    clear hO3 hR3 hB3
    obtain ⟨j, rfl, hj, hO, hRd, hB⟩ := hrel
    by_cases hjD : j < D
    · obtain ⟨x, hx⟩ : ∃ x, X[j]? = some x := ⟨X[j]'(by rw [HD.out]; exact hjD), List.getElem?_eq_getElem _⟩
      have hxN := HW.out x (List.mem_of_getElem? hx)
      have hxl : x < 65536 := Nat.lt_of_lt_of_le hxN (Nat.le_trans (two_le16 hN) (by decide))
      have hon := ones_le (by omega) hxN
      obtain ⟨b, o, hab, hc⟩ := hRd.out j (.int .u16 (x : Int)) (cellsU_get hx)
      have HP2 := HP
      rw [hab] at HP2 hRd
      subst hab
      have CO := Lib.hid (fun W => bits_OnesCount16 x W hxl)
      obtain ⟨t, ht⟩ : ∃ t, ones16 x = t := ⟨_, rfl⟩
      have HT := Lib.hid ht
      rw [ht] at CO hon
      obtain ⟨c, hcnt⟩ : ∃ c, wtN (X.take j) t = c := ⟨_, rfl⟩
      have hcl : c ≤ 64 := by rw [← hcnt]; refine Nat.le_trans (wtN_le _ _) ?_; rw [List.length_take]; omega
      have HC := Lib.hid hcnt
      have hjz : (j : Int) < (D : Int) := by omega
      have htM : t < M := by omega
      have htMz : (t : Int) < (M : Int) := by omega
      have htz : (0 : Int) ≤ (t : Int) := by omega
      obtain ⟨c', hc'⟩ : ∃ c', c + 1 = c' := ⟨_, rfl⟩
      have ec : (c : Int) + 1 = (c' : Int) := by omega
      have HC2 := Lib.hid hc'
      have HXT := Lib.hid (app_take hx)
      clear hx hxN ht hcnt hc'
      go_upto_region 8 with fail
      go_wp2_with (first | (go_at_call 36; (refine (CO.out _).mono ?_); rintro e w9 ⟨rfl, q, hw9⟩; have hO9 := Lib.hid (show Own w9 g 3 g M M (wtC (X.take j)) by rw [hw9]; exact hO.out.drewN q); have hR9 := Lib.hid (show Reads w9 (some ⟨b, o, none⟩) (cellsU X) by rw [hw9]; exact hRd.out); have hB9 := Lib.hid (show Below w.heap.size w w9 by rw [hw9]; exact below_drewN hB.out q); have c9 := (hO9.out.cell htM).trans (congrArg (fun z : Nat => some (Value.int .i64 (z : Int))) HC.out); have f9 := hO9.out.frozen t; clear hw9) | fail)
      have st := hO9.out.store t (.int .i64 (c' : Int))
      have hO5 : Own (w9.setCell ⟨g, t, none⟩ (.int .i64 (c' : Int))) g 3 g M M (wtC (X.take (j + 1))) := by
        refine st.1.congr fun a _ => ?_
        show (if a = t then _ else wtC (X.take j) a) = wtC (X.take (j + 1)) a
        unfold wtC
        rw [HXT.out, wtN_snoc, HT.out]
        by_cases ha : a = t
        · rw [if_pos ha, if_pos ha, ha, HC.out, HC2.out]
        · rw [if_neg ha, if_neg ha]
      have hR5 : Reads (w9.setCell ⟨g, t, none⟩ (.int .i64 (c' : Int))) (some ⟨b, o, none⟩) (cellsU X) := hR9.out.grown st.2 (fun a h1 h2 => by have := HP2.out a h1; injection h2 with h2; omega)
      have hB5 : Below w.heap.size w (w9.setCell ⟨g, t, none⟩ (.int .i64 (c' : Int))) := hB9.out.setCell hwg _
      go_roundw
      case rel => exact ⟨j + 1, by go_num, by omega, hO5, hR5, hB5⟩
      case measure => simp [intOf]; omega
    · obtain rfl : D = j := by omega
      have hT : X.take D = X := List.take_of_length_le (by rw [HD.out]; exact Nat.le_refl _)
      rw [hT] at hO
      clear hT
      go_wp2_with fail
      go_ret2
      refine ⟨g, rfl, ?_, hB.out⟩
      obtain ⟨h1, h2⟩ := hO.out
      exact ⟨h1, h2.imp id (fun ⟨g', cap', cur, hv, hb, r⟩ => ⟨g', cap', cur, hv, Nat.le_trans hwg hb, r⟩)⟩
set_option maxRecDepth 100000 in
set_option maxHeartbeats 2000000 in
theorem lin_Weights_bad (nz : Int) (l : List Nat) (ao : Option Addr) (m cap : Nat) (w : World) (hl : l.length = m) (h63 : m ≤ 9223372036854775807) (hlt : ∀ x ∈ l, x < 65536) (hE : wordE nz l ≠ 0) (hR : Hid (Reads w ao (cellsU l))) :
    Calls Try.prog 15 #[.int .i64 nz, .slice ao m cap] w fun e w' => e = .returned (.tuple #[.slice none 0 0, .int .i64 (wordE nz l)]) ∧ Below w.heap.size w w' := by
  have C1 := Lib.hid (lin_Check nz l ao m cap w hl h63 hlt hR)
  obtain ⟨E, hEE⟩ : ∃ E, wordE nz l = E := ⟨_, rfl⟩
  rw [hEE] at C1 hE ⊢
  have h0b : (E == 0) = false := by simp; omega
  have h0c : (E != 0) = true := by simp; omega
  clear hEE hl hlt
  go_enter Try.func15, Try.ntmps15
  go_wp2_with (first
    | (go_at_call 17; (refine C1.out.mono ?_); rintro e w1 ⟨rfl, hb1⟩)
    | fail)
  go_ret2
  exact ⟨rfl, hb1⟩
/-! ### Far -/
/-- From place k on: the first that is there. -/
def farN (N : Nat) (W : List Nat) : Nat → Nat → Nat × Int
  | _, 0 => (0, 4)
  | k, q + 1 => if k ≤ N then (if 0 < wtN W k then (k, 0) else farN N W (k + 1) q) else (0, 4)
theorem far_hit {N k q : Nat} {W : List Nat} (h : k ≤ N) (hp : 0 < wtN W k) : farN N W k (q + 1) = (k, 0) := by unfold farN; rw [if_pos h, if_pos hp]
theorem far_next {N k q : Nat} {W : List Nat} (h : k ≤ N) (hp : ¬ 0 < wtN W k) : farN N W k (q + 1) = farN N W (k + 1) q := by rw [farN, if_pos h, if_neg hp]
theorem far_end {N k q : Nat} {W : List Nat} (h : ¬ k ≤ N) : farN N W k q = (0, 4) := by
  cases q with
  | zero => rfl
  | succ q => unfold farN; rw [if_neg h]
set_option maxRecDepth 100000 in
set_option maxHeartbeats 4000000 in
theorem lin_Far (N : Nat) (l : List Nat) (ao : Option Addr) (m cap : Nat) (w : World) (hN1 : 1 ≤ N) (hN : N ≤ 12) (hl : l.length = m) (hm : m ≤ 6) (hE : wordE N l = 0) (hR : Hid (Reads w ao (cellsU l))) :
    Calls Try.prog 16 #[.int .i64 N, .slice ao m cap] w fun e w' => e = .returned (.tuple #[.int .i64 ((farN N (wordsL l) 1 (N + 1)).1 : Nat), .int .i64 (farN N (wordsL l) 1 (N + 1)).2]) ∧ Below w.heap.size w w' := by
  have C1 := Lib.hid (lin_Weights N l ao m cap w hN1 hN hl hm hE hR)
  obtain ⟨X, hX⟩ : ∃ X, wordsL l = X := ⟨_, rfl⟩
  have hXl : ∀ k, wtN X k ≤ 64 := fun k => Nat.le_trans (wtN_le _ _) (by rw [← hX]; exact Nat.le_trans (wordsL_len l) (Nat.le_trans (Nat.pow_le_pow_right (by omega) (by rw [hl]; exact hm)) (by decide)))
  have HXL := Lib.hid hXl
  rw [hX] at C1 ⊢
  unfold WtPost at C1
  obtain ⟨M, hM⟩ : ∃ M, N + 1 = M := ⟨_, rfl⟩
  have HM := Lib.hid hM
  rw [hM] at C1 ⊢
  obtain ⟨R, hR2⟩ : ∃ R, farN N X 1 M = R := ⟨_, rfl⟩
  have HR := Lib.hid hR2
  rw [hR2]
  have hMN : M ≤ 13 := by omega
  have hMN2 : N < M := by omega
  clear hX hXl hE hl hM hR2
  go_enter Try.func16, Try.ntmps16
  go_wp2_with (first
    | (go_at_call 15; (refine C1.out.mono ?_); rintro e w1 ⟨g, rfl, hO, hB⟩)
    | fail)
  have HO := Lib.hid hO
  have HB := Lib.hid hB
  clear hO hB
  go_loopw [8] (fun vk wr => ∃ (k : Nat), vk = .int .i64 k ∧ 1 ≤ k ∧ k ≤ M ∧ Hid (farN N X k (M + 1 - k) = R) ∧ w1 = wr) (fun vk _ => M - (intOf vk).toNat)
  case atStart => exact ⟨1, rfl, Nat.le_refl _, by omega, by show farN N X 1 (M + 1 - 1) = R; rw [Nat.add_sub_cancel]; exact HR.out, rfl⟩
  case round =>
    obtain ⟨k, rfl, hk1, hkM, hF, rfl⟩ := hrel
    by_cases hkN : k ≤ N
    · obtain ⟨c, hc⟩ : ∃ c, wtN X k = c := ⟨_, rfl⟩
      have c1 := (HO.out.cell (show k < M by omega)).trans (congrArg (fun z : Nat => some (Value.int .i64 (z : Int))) hc)
      have hkz : (k : Int) ≤ (N : Int) := by omega
      have hkz2 : (k : Int) < (M : Int) := by omega
      have hcl : c ≤ 64 := by rw [← hc]; exact HXL.out k
      obtain ⟨q, hq⟩ : ∃ q, M + 1 - k = q + 1 := ⟨M - k, by omega⟩
      have hF2 := hF.out
      rw [hq] at hF2
      by_cases hc0 : 0 < c
      · have hz : (0 : Int) < (c : Int) := by omega
        rw [far_hit hkN (by rw [hc]; exact hc0)] at hF2
        have HF := Lib.hid hF2
        clear hF hF2 hq hc
        go_wp2_with fail
        go_ret2
        rw [← HF.out]
        exact ⟨rfl, HB.out⟩
      · have hz : ¬ (0 : Int) < (c : Int) := by omega
        rw [far_next hkN (by rw [hc]; exact hc0)] at hF2
        have HF : Hid (farN N X (k + 1) (M + 1 - (k + 1)) = R) := by rw [show M + 1 - (k + 1) = q by omega]; exact hF2
        have hcz : c = 0 := by omega
        clear hF hF2 hq hc
        subst hcz
        go_wp2_with fail
        go_roundw
        case rel => exact ⟨k + 1, by go_num, by omega, by omega, HF, by first | rfl | trivial⟩
        case measure => simp [intOf]; omega
    · have hkz : ¬ (k : Int) ≤ (N : Int) := by omega
      have HF := Lib.hid ((far_end hkN).symm.trans hF.out)
      go_wp2_with fail
      go_ret2
      rw [← HF.out]
      exact ⟨rfl, HB.out⟩
theorem lin_Far_bad (nz : Int) (l : List Nat) (ao : Option Addr) (m cap : Nat) (w : World) (hl : l.length = m) (h63 : m ≤ 9223372036854775807) (hlt : ∀ x ∈ l, x < 65536) (hE : wordE nz l ≠ 0) (hR : Hid (Reads w ao (cellsU l))) :
    Calls Try.prog 16 #[.int .i64 nz, .slice ao m cap] w fun e w' => e = .returned (.tuple #[.int .i64 0, .int .i64 (wordE nz l)]) ∧ Below w.heap.size w w' := by
  have C1 := Lib.hid (lin_Weights_bad nz l ao m cap w hl h63 hlt hE hR)
  obtain ⟨E, hEE⟩ : ∃ E, wordE nz l = E := ⟨_, rfl⟩
  rw [hEE] at C1 hE ⊢
  have h0b : (E == 0) = false := by simp; omega
  have h0c : (E != 0) = true := by simp; omega
  clear hEE hl hlt
  go_enter Try.func16, Try.ntmps16
  go_wp2_with (first
    | (go_at_call 15; (refine C1.out.mono ?_); rintro e w1 ⟨rfl, hb1⟩)
    | fail)
  go_ret2
  exact ⟨rfl, hb1⟩
end Go.Proofs.Ytmeffbooabionaa
namespace Go.Proofs.Ytmeffbooabionaa

def hbit (w k : Nat) : Nat := w / 2 ^ k % 2
def parB (at' : Nat) : Bool := decide (at' &&& (at' - 1) = 0)
/-- The exclusive or of the hplaces of ones, of the first k hplaces. -/
def hsumN : Nat → Nat → Nat
  | 0, _ => 0
  | k + 1, w => if hbit w k = 1 then hsumN k w ^^^ (k + 1) else hsumN k w
def hsum (w : Nat) : Nat := hsumN 15 w
theorem hsumN_lt (k w : Nat) (hk : k ≤ 15) : hsumN k w < 16 := by
  induction k with
  | zero => simp [hsumN]
  | succ k ih =>
    simp only [hsumN]
    split
    · exact Nat.xor_lt_two_pow (n := 4) (ih (by omega)) (by omega)
    · exact ih (by omega)
theorem hbit_xor (x y k : Nat) : hbit (x ^^^ y) k = (hbit x k ^^^ hbit y k) := bit_xor x y k
theorem hbit_01 (x k : Nat) : hbit x k = 0 ∨ hbit x k = 1 := Nat.mod_two_eq_zero_or_one _
theorem hsumN_xor (k x y : Nat) : hsumN k (x ^^^ y) = hsumN k x ^^^ hsumN k y := by
  induction k with
  | zero => simp [hsumN]
  | succ k ih =>
    simp only [hsumN, hbit_xor]
    rw [ih]
    generalize hsumN k x = A
    generalize hsumN k y = B
    rcases hbit_01 x k with h | h <;> rcases hbit_01 y k with h' | h' <;> simp [h, h']
    · rw [Nat.xor_assoc]
    · rw [Nat.xor_assoc, Nat.xor_assoc, Nat.xor_comm (k + 1)]
    · rw [xor4, Nat.xor_self, Nat.xor_zero]
theorem hsum_one : ∀ j : Fin 15, hsum (2 ^ j.val) = j.val + 1 := by decide +kernel
/-- The state of Put's first loop: the word and what is left of the data. -/
def putN : Nat → Nat → Nat × Nat
  | 0, d => (0, d)
  | k + 1, d => if parB (k + 1) = true then putN k d else ((putN k d).1 ||| ((putN k d).2 % 2) * 2 ^ k, (putN k d).2 / 2)
def put2 : Nat → Nat → Nat → Nat
  | 0, _, w => w
  | j + 1, s, w => if s &&& 2 ^ j ≠ 0 then put2 j s w ||| 2 ^ (2 ^ j - 1) else put2 j s w
def hput (d : Nat) : Nat := put2 4 (hsum (putN 15 d).1) (putN 15 d).1
/-- The state of Get's loop: the data and how many there are. -/
def getN : Nat → Nat → Nat × Nat
  | 0, _ => (0, 0)
  | k + 1, w => if parB (k + 1) = true then getN k w else ((getN k w).1 ||| hbit w k * 2 ^ (getN k w).2, (getN k w).2 + 1)
def hdata (w : Nat) : Nat := (getN 15 w).1
def hplaces : List Nat := [3, 5, 6, 7, 9, 10, 11, 12, 13, 14, 15]
/-- The reference's data, of the first k hplaces. -/
def dataN : Nat → Nat → Nat
  | 0, _ => 0
  | k + 1, w => dataN k w ||| hbit w (hplaces.getD k 0 - 1) * 2 ^ k
theorem hdata_eq (w : Nat) : dataN 11 w = hdata w := by
  have p : ∀ k, k < 15 → parB (k + 1) = decide (k = 0 ∨ k = 1 ∨ k = 3 ∨ k = 7) := by
    have H : ∀ k : Fin 15, parB (k.val + 1) = decide (k.val = 0 ∨ k.val = 1 ∨ k.val = 3 ∨ k.val = 7) := by decide +kernel
    exact fun k hk => H ⟨k, hk⟩
  simp [hdata, getN, p, dataN, hplaces]
theorem hput_all : ∀ d : Fin 2048, (hput d.val < 32768 ∧ hsum (hput d.val) = 0) ∧ hdata (hput d.val) = d.val := by decide +kernel
theorem hput_ok {d : Nat} (h : d < 2048) : hput d < 32768 ∧ hsum (hput d) = 0 ∧ hdata (hput d) = d :=
  ⟨(hput_all ⟨d, h⟩).1.1, (hput_all ⟨d, h⟩).1.2, (hput_all ⟨d, h⟩).2⟩
/-- A word with one place turned. -/
def turn (w k : Nat) : Nat := if k = 0 then w else w ^^^ 2 ^ (k - 1)
theorem hsum_turn (w k : Nat) (hk : k ≤ 15) : hsum (turn w k) = hsum w ^^^ k := by
  unfold turn
  split
  · subst k; simp
  · unfold hsum
    rw [hsumN_xor]
    have := hsum_one ⟨k - 1, by omega⟩
    unfold hsum at this
    rw [this]; congr 1; simp only; omega
theorem turn_lt (w k : Nat) (hw : w < 32768) (hk : k ≤ 15) : turn w k < 32768 := by
  unfold turn
  split
  · exact hw
  · have h2 : 2 ^ (k - 1) ≤ 2 ^ 14 := Nat.pow_le_pow_right (by omega) (by omega)
    exact Nat.xor_lt_two_pow (n := 15) hw (by omega)
theorem xor_eq_zero' (a b : Nat) : a ^^^ b = 0 ↔ a = b := by
  constructor
  · intro h
    have : (a ^^^ b) ^^^ b = 0 ^^^ b := by rw [h]
    rwa [Nat.xor_assoc, Nat.xor_self, Nat.xor_zero, Nat.zero_xor] at this
  · intro h; rw [h, Nat.xor_self]
theorem putN_lt (k d : Nat) (hk : k ≤ 15) : (putN k d).1 < 32768 ∧ (putN k d).2 ≤ d := by
  induction k with
  | zero => simp [putN]
  | succ k ih =>
    have ih := ih (by omega)
    simp only [putN]
    split
    · exact ih
    · refine ⟨Nat.or_lt_two_pow (n := 15) ih.1 ?_, Nat.le_trans (Nat.div_le_self _ _) ih.2⟩
      have h1 : 2 ^ k ≤ 2 ^ 14 := Nat.pow_le_pow_right (by omega) (by omega)
      have h2 := Nat.mul_le_mul (show (putN k d).2 % 2 ≤ 1 by omega) h1
      omega
theorem put2_lt (j s w : Nat) (hj : j ≤ 4) (hw : w < 32768) : put2 j s w < 32768 := by
  induction j with
  | zero => exact hw
  | succ j ih =>
    simp only [put2]
    split
    · refine Nat.or_lt_two_pow (n := 15) (ih (by omega)) ?_
      have : j = 0 ∨ j = 1 ∨ j = 2 ∨ j = 3 := by omega
      rcases this with h | h | h | h <;> subst h <;> simp
    · exact ih (by omega)
theorem getN_lt (k w : Nat) (hk : k ≤ 15) : (getN k w).2 ≤ k ∧ (getN k w).1 < 2 ^ (getN k w).2 := by
  induction k with
  | zero => simp [getN]
  | succ k ih =>
    have ih := ih (by omega)
    simp only [getN]
    split
    · exact ⟨by omega, ih.2⟩
    · refine ⟨by simp only; omega, ?_⟩
      simp only
      refine Nat.or_lt_two_pow (Nat.lt_of_lt_of_le ih.2 (Nat.pow_le_pow_right (by omega) (by omega))) ?_
      rw [Nat.pow_succ]
      have h1 : 0 < 2 ^ (getN k w).2 := Nat.pow_pos (by omega)
      have h2 := Nat.mul_le_mul_right (2 ^ (getN k w).2) (show hbit w k ≤ 1 by have := hbit_01 w k; omega)
      omega
end Go.Proofs.Ytmeffbooabionaa
