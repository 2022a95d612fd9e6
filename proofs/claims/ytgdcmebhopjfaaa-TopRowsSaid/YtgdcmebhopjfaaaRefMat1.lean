/- wholeref.TableDet and wholeref.TableMul. -/
import Derived.Test.YtgdcmebhopjfaaaMatrix2
import Derived.Test.YtgdcmebhopjfaaaMatD
import Derived.Test.YtgdcmebhopjfaaaRefField
namespace Go.Proofs.Ytgdcmebhopjfaaa
open Go.RowKit

theorem testBit_xor_pow {s k : Nat} (h : s.testBit k = true) (j : Nat) : (s ^^^ 2 ^ k).testBit j = (s.testBit j && decide (j ≠ k)) := by
  rw [Nat.testBit_xor, Nat.testBit_two_pow]
  by_cases hj : j = k
  · subst hj; simp [h]
  · have : ¬ k = j := fun e => hj e.symm
    simp [hj, this]
theorem xor_pow_lt : ∀ {k s : Nat}, s.testBit k = true → s ^^^ 2 ^ k < s
  | 0, s, h => by
    have h1 : s % 2 = 1 := by simpa [Nat.testBit_zero] using h
    have e1 : (s ^^^ 1) / 2 = s / 2 := by rw [Nat.xor_div_two]; simp
    have e2 : (s ^^^ 1) % 2 = 0 := by rw [mod2_xor, h1]; rfl
    show s ^^^ 1 < s
    omega
  | k + 1, s, h => by
    have h1 : (s / 2).testBit k = true := by rw [Nat.testBit_succ] at h; exact h
    have ih := xor_pow_lt h1
    have e1 : (s ^^^ 2 ^ (k + 1)) / 2 = s / 2 ^^^ 2 ^ k := by rw [Nat.xor_div_two, Nat.pow_succ, Nat.mul_div_cancel _ (by omega)]
    have e2 : (s ^^^ 2 ^ (k + 1)) % 2 = s % 2 := by
      rw [mod2_xor, Nat.pow_succ, Nat.mul_mod_left]
      rw [Nat.xor_zero]
    omega
theorem i64_andNot_pow (s k : Nat) (hs : s < 9223372036854775808) (hk : k < 62) (h : s.testBit k = true) : bits .andNot .i64 (s : Int) ((2 ^ k : Nat) : Int) = ((s ^^^ 2 ^ k : Nat) : Int) := by
  have hx := xor_pow_lt h
  have e : (BitVec.ofInt 64 (s : Int) &&& ~~~ BitVec.ofInt 64 ((2 ^ k : Nat) : Int)).toNat = s ^^^ 2 ^ k := by
    apply Nat.eq_of_testBit_eq
    intro j
    rw [BitVec.testBit_toNat, BitVec.getLsbD_and, BitVec.getLsbD_not, BitVec.ofInt_natCast, BitVec.ofInt_natCast, BitVec.getLsbD_ofNat, BitVec.getLsbD_ofNat, testBit_xor_pow h, Nat.testBit_two_pow]
    by_cases hj : j < 64
    · by_cases hjk : j = k
      · subst hjk; simp [hj]
      · have : ¬ k = j := fun e => hjk e.symm
        simp [hj, hjk, this]
    · have hf : s.testBit j = false := by
        apply Nat.testBit_lt_two_pow
        exact Nat.lt_of_lt_of_le (show s < 2 ^ 64 by omega) (Nat.pow_le_pow_right (by omega) (by omega))
      simp [hj, hf]
  show IntKind.i64.wrap ((BitVec.ofInt 64 (s : Int) &&& ~~~ BitVec.ofInt 64 ((2 ^ k : Nat) : Int)).toNat : Int) = _
  rw [e]
  exact IntWalk.i64_in _ (by omega)
theorem colsOf_succ (j s : Nat) : (colsOf (j + 1) s).length = (colsOf j s).length + (if s.testBit j = true then 1 else 0) := by
  unfold colsOf
  rw [List.range_succ, List.filter_append, List.length_append]
  congr 1
  by_cases h : s.testBit j = true
  · rw [if_pos h, List.filter_cons_of_pos h]; rfl
  · rw [if_neg h, List.filter_cons_of_neg h]; rfl
theorem colsOf_le (j s : Nat) : (colsOf j s).length ≤ j := by
  unfold colsOf
  exact Nat.le_trans (List.length_filter_le _ _) (by simp)
theorem colsOf_pos {n s : Nat} (h1 : 1 ≤ s) (h2 : s < 2 ^ n) : 0 < (colsOf n s).length := by
  refine List.length_pos_of_mem (a := s.log2) ?_
  have hs : s ≠ 0 := by omega
  refine List.mem_filter.2 ⟨List.mem_range.2 ((Nat.log2_lt hs).2 h2), Nat.testBit_log2 hs⟩
/-- What det[s] is when k columns were looked at. -/
def detP (A : Mt) (n s row k : Nat) : GF := sumG (fun c => if s.testBit c = true then A row c * detS A n (s ^^^ 2 ^ c) else 0) k
theorem detP_full (A : Mt) {n s row : Nat} (hr : (colsOf n s).length = row + 1) : detP A n s row n = detS A n s :=
  (detS_step A hr (fun k => s ^^^ 2 ^ k) fun k _ hk j _ => testBit_xor_pow hk j).symm
def detV (A : Mt) (n s : Nat) (x : GF) : Nat → Value := fun t => gv (if t < s then detS A n t else if t = s then x else 0)
set_option maxRecDepth 100000 in
set_option maxHeartbeats 8000000 in
theorem ref_TableDet (T : List Hd) (n : Nat) (ao : Option Addr) (ca : Nat) (w : World) (hT : TabIn w ao n T) (oT : TabOk (zof T) n n) :
    Calls Try.prog 40 #[.slice ao n ca] w fun e w' => e = .returned (.int .u8 (detG n (matM (zof T))).val) ∧ Below w.heap.size w w' := by
  obtain ⟨A, hA⟩ : ∃ A, matM (zof T) = A := ⟨_, rfl⟩
  have FT := hT.fix oT
  rw [hA] at FT ⊢
  have r1 := oT.r1
  have r2 := oT.r12
  obtain ⟨b0, o0, rfl, FT⟩ := FT
  have HT := Lib.hid FT
  obtain ⟨N, hN⟩ : ∃ N, 2 ^ n = N := ⟨_, rfl⟩
  have hN1 : N ≤ 4096 := by
    rw [← hN]
    exact Nat.pow_le_pow_right (n := 2) (by omega) r2
  have hN0 : 2 ≤ N := by
    rw [← hN]
    exact Nat.pow_le_pow_right (n := 2) (i := 1) (by omega) r1
  have HN := Lib.hid hN
  have e0 : IntKind.i64.wrap ((2 : Int) ^ n) = (N : Int) := by
    have : ((2 : Int) ^ n) = (N : Int) := by rw [← hN, Int.natCast_pow]; rfl
    rw [this]; exact IntWalk.i64_in _ (by omega)
  have hfin : Hid (detG n A = detS A n (N - 1)) := by show _ = _; rw [← detS_all, hN]
  have hN2 : (0 : Int) < (N : Int) := by omega
  clear hT oT hA FT hN
  go_enter Try.func40, Try.ntmps40
  go_wp2_with (first
    | (at_make; refine make_own rfl _ _ 59 rfl w.heap.size 5 _ 1 Try.underlying59 u8Info rfl _ _ _ _ N (by rfl) (by rfl) rfl rfl (by omega) (by unfold maxLen; omega) (Nat.le_refl _) ?_; intro w1 hown hg1; have st := hown.store 0 (gv 1); have hB1 := below_of_grown hg1 (Nat.le_refl w.heap.size) (by intro k hk; cases hk); have hB2 := Lib.hid (hown.belowStore hB1 (Nat.le_refl _) 0 (gv 1)); have hO2 : Hid (Own (w1.setCell ⟨w.heap.size, 0, none⟩ (gv 1)) w.heap.size 5 w.heap.size N N (detV A n 1 0)) := Lib.hid (st.1.congr (fun j _ => by
        unfold detV
        by_cases h : j = 0
        · subst h; rw [if_pos rfl, if_pos (by omega), detS_zero]
        · rw [if_neg h, if_neg (by omega)]
          split <;> rfl)); have c0 := hown.cell (show 0 < N by omega); have f0 := hown.frozen 0; clear st hown hB1 hg1)
    | fail)
  unfold gv at hB2 hO2
  have HO2 := hO2
  clear c0 f0 hO2
  go_loopw [5] (fun vs wr => ∃ s : Nat, vs = .int .i64 s ∧ 1 ≤ s ∧ s ≤ N ∧ Hid (Own wr w.heap.size 5 w.heap.size N N (detV A n s 0)) ∧ Hid (Below w.heap.size w wr)) (fun vs _ => N - (intOf vs).toNat)
  case atStart => exact ⟨1, rfl, by omega, by omega, HO2, hB2⟩
  case round =>
    clear HO2 hB2
    obtain ⟨s, rfl, hs1, hsN, hO, hb⟩ := hrel
    by_cases hs : s < N
    · have z1 : (s : Int) < (N : Int) := by omega
      have hs2n : Hid (s < 2 ^ n) := by show _ < _; rw [HN.out]; exact hs
      go_wp2_with fail
      go_loopw [6, 23] (fun vr vj wr2 => ∃ j : Nat, vj = .int .i64 j ∧ j ≤ n ∧ vr = .int .i64 (((colsOf j s).length : Int) - 1) ∧ wr2 = wr) (fun _ vj _ => n - (intOf vj).toNat)
      case atStart => exact ⟨0, rfl, by omega, by simp [colsOf], rfl⟩
      case round =>
        obtain ⟨j, rfl, hj, rfl, rfl⟩ := hrel
        by_cases hjn : j < n
        · have e1 : bits .and .i64 ((s : Int) / 2 ^ j) 1 = ((s / 2 ^ j % 2 : Nat) : Int) := by
            have hle : s / 2 ^ j ≤ s := Nat.div_le_self _ _
            have h := i64_and_nat (s / 2 ^ j) 1 (by omega) (by omega)
            rw [Nat.and_one_is_mod] at h
            rw [← h]; push_cast; rfl
          have HC := Lib.hid (colsOf_succ j s)
          have hcl := colsOf_le j s
          obtain ⟨c, hc⟩ : ∃ c, (colsOf j s).length = c := ⟨_, rfl⟩
          rw [hc] at HC hcl ⊢
          have hbit := Nat.testBit_eq_decide_div_mod_eq (x := s) (i := j)
          obtain ⟨d, hd⟩ : ∃ d, s / 2 ^ j % 2 = d := ⟨_, rfl⟩
          have hd2 : d ≤ 1 := by omega
          rw [hd] at e1 hbit
          have hnew : Hid ((colsOf (j + 1) s).length = c + d) := by
            show _ = _
            rw [HC.out, hbit]
            congr 1
            rcases (show d = 0 ∨ d = 1 by omega) with rfl | rfl <;> rfl
          have wd : IntKind.i64.wrap ((c : Int) - 1 + (d : Int)) = (c : Int) - 1 + (d : Int) := IntWalk.i64_in _ (by omega)
          clear hc hbit hd
          go_wp2_with fail
          go_roundw
          case rel => exact ⟨j + 1, by go_num, by omega, (by rw [hnew.out]; go_num), (by first | trivial | rfl)⟩
          case measure => simp [intOf]; omega
        · obtain rfl : n = j := by omega
          obtain ⟨ρ, hρ⟩ : ∃ ρ, (colsOf n s).length = ρ + 1 := ⟨(colsOf n s).length - 1, by have := colsOf_pos hs1 hs2n.out; omega⟩
          have hρn : ρ < n := by have := colsOf_le n s; omega
          have HP := Lib.hid (detP_full A hρ)
          rw [hρ]
          have eρ : (((ρ + 1 : Nat) : Int) - 1) = (ρ : Int) := by omega
          rw [eρ]
          obtain ⟨b', o', c', k1, k2, hF⟩ := HT.out ρ hρn
          have HF := Lib.hid hF
          have hO0 : Hid (Own wr w.heap.size 5 w.heap.size N N (detV A n s (detP A n s ρ 0))) := hO
          clear hF hρ eρ
          go_wp2_with fail
          go_loopw [34] (fun vk wr => ∃ k : Nat, vk = .int .i64 k ∧ k ≤ n ∧ Hid (Own wr w.heap.size 5 w.heap.size N N (detV A n s (detP A n s ρ k))) ∧ Hid (Below w.heap.size w wr)) (fun vk _ => n - (intOf vk).toNat)
          case atStart => exact ⟨0, rfl, by omega, hO0, hb⟩
          case round =>
            clear hO0 hO hb
            obtain ⟨k, rfl, hk, hO, hb⟩ := hrel
            by_cases hkn : k < n
            · have e1 : bits .and .i64 ((s : Int) / 2 ^ k) 1 = ((s / 2 ^ k % 2 : Nat) : Int) := by
                have hle : s / 2 ^ k ≤ s := Nat.div_le_self _ _
                have h := i64_and_nat (s / 2 ^ k) 1 (by omega) (by omega)
                rw [Nat.and_one_is_mod] at h
                rw [← h]; push_cast; rfl
              have hbit := Nat.testBit_eq_decide_div_mod_eq (x := s) (i := k)
              rcases Nat.mod_two_eq_zero_or_one (s / 2 ^ k) with h01 | h01
              · have hO2 : Hid (Own wr w.heap.size 5 w.heap.size N N (detV A n s (detP A n s ρ (k + 1)))) := by
                  have e : detP A n s ρ (k + 1) = detP A n s ρ k := by
                    show _ + (if s.testBit k = true then _ else 0) = _
                    rw [hbit, h01, if_neg (by decide), g_add_zero]
                    rfl
                  rw [e]; exact hO
                rw [h01] at e1
                clear h01 hbit
                go_wp2_with fail
                go_roundw
                case rel => exact ⟨k + 1, by go_num, by omega, hO2, hb⟩
                case measure => simp [intOf]; omega
              · have hb1 : s.testBit k = true := by rw [hbit, h01]; rfl
                obtain ⟨u, hu⟩ : ∃ u, s ^^^ 2 ^ k = u := ⟨_, rfl⟩
                have hus : u < s := by rw [← hu]; exact xor_pow_lt hb1
                have ea := i64_andNot_pow s k (by omega) (by omega) hb1
                rw [hu] at ea
                obtain ⟨P, hP⟩ : ∃ P, 2 ^ k = P := ⟨_, rfl⟩
                have hPb : P ≤ 4096 := by rw [← hP]; exact Nat.pow_le_pow_right (n := 2) (j := 12) (by omega) (by omega)
                have ep : IntKind.i64.wrap ((2 : Int) ^ k) = (P : Int) := by
                  have : ((2 : Int) ^ k) = (P : Int) := by rw [← hP, Int.natCast_pow]; rfl
                  rw [this]; exact IntWalk.i64_in _ (by omega)
                rw [hP] at ea
                have hstep : Hid (detP A n s ρ (k + 1) = detP A n s ρ k + A ρ k * detS A n u) := by
                  show _ + (if s.testBit k = true then A ρ k * detS A n (s ^^^ 2 ^ k) else 0) = _
                  rw [if_pos hb1, hu]
                  rfl
                have c1 := hO.out.cell hs
                have c2 := hO.out.cell (show u < N by omega)
                have f1 := hO.out.frozen s
                rw [show detV A n s (detP A n s ρ k) s = .int .u8 ((detP A n s ρ k).val : Int) by unfold detV; rw [if_neg (by omega), if_pos rfl]; rfl] at c1
                rw [show detV A n s (detP A n s ρ k) u = .int .u8 ((detS A n u).val : Int) by unfold detV; rw [if_pos hus]; rfl] at c2
                have c3 := (HF.out wr hb.out).1
                have c4 := (HF.out wr hb.out).2 k hkn
                obtain ⟨x, hx⟩ : ∃ x, (detP A n s ρ k).val = x := ⟨_, rfl⟩
                obtain ⟨y, hy⟩ : ∃ y, (detS A n u).val = y := ⟨_, rfl⟩
                obtain ⟨z, hz⟩ : ∃ z, (A ρ k).val = z := ⟨_, rfl⟩
                have x1 : x < 256 := by rw [← hx]; exact GF.lt _
                have y1 : y < 256 := by rw [← hy]; exact GF.lt _
                have z1' : z < 256 := by rw [← hz]; exact GF.lt _
                rw [hx] at c1
                rw [hy] at c2
                rw [hz] at c4
                obtain ⟨t, ht⟩ : ∃ t, gmul z y = t := ⟨_, rfl⟩
                have t1 : t < 256 := by rw [← ht]; exact gmul_lt z1'
                obtain ⟨v, hv⟩ : ∃ v : Nat, x ^^^ t = v := ⟨_, rfl⟩
                have ex : bits .xor .u8 (x : Int) (t : Int) = (v : Int) := by rw [u8_xor_nat x t x1 t1, hv]
                have CT := Lib.hid (fun W => ref_Times z y W z1' y1)
                rw [ht] at CT
                have hval : Hid ((detP A n s ρ (k + 1)).val = v) := by show _ = _; rw [hstep.out, GF.add_val, GF.mul_val, hx, hy, hz, ht, hv]
                have st := hO.out.store s (.int .u8 (v : Int))
                have hO3 : Hid (Own (wr.setCell ⟨w.heap.size, s, none⟩ (.int .u8 (v : Int))) w.heap.size 5 w.heap.size N N (detV A n s (detP A n s ρ (k + 1)))) := Lib.hid (st.1.congr fun j _ => by
                  unfold detV
                  by_cases h : j = s
                  · rw [if_pos h, if_neg (by omega), if_pos h]; unfold gv; rw [hval.out]
                  · rw [if_neg h, if_neg h, if_neg h])
                have hb3 := Lib.hid (hO.out.belowStore hb.out (Nat.le_refl _) s (.int .u8 (v : Int)))
                have u0 : (0 : Int) ≤ (u : Int) := by omega
                have u1 : (u : Int) < (N : Int) := by omega
                have s0 : (0 : Int) ≤ (s : Int) := by omega
                have k0 : (0 : Int) ≤ (k : Int) := by omega
                have k3 : (k : Int) < (n : Int) := by omega
                have p0 : (0 : Int) ≤ (ρ : Int) := by omega
                have p1 : (ρ : Int) < (n : Int) := by omega
                rw [h01] at e1
                clear st h01 hbit hb1 hu hP hx hy hz ht hv
                go_wp2_with fail
                go_region_law (first | (go_simp; go_at_call 46; refine (CT.out _).mono ?_; rintro e w' ⟨rfl, m2, rfl⟩))
                all_goals
                  go_wp2_with fail
                  go_roundw
                  case rel => exact ⟨k + 1, by go_num, by omega, by exact hO3.out, ⟨hb3.out.os, hb3.out.tape, hb3.out.output, hb3.out.size, hb3.out.block⟩⟩
                  case measure => simp [intOf]; omega
            · obtain rfl : n = k := by omega
              have hO4 : Hid (Own wr w.heap.size 5 w.heap.size N N (detV A n (s + 1) 0)) := Lib.hid (hO.out.congr fun j _ => by
                unfold detV
                by_cases h1 : j < s
                · rw [if_pos h1, if_pos (by omega)]
                · rw [if_neg h1]
                  by_cases h2 : j = s
                  · subst h2; rw [if_pos rfl, if_pos (by omega), HP.out]
                  · rw [if_neg h2, if_neg (by omega)]
                    split <;> rfl)
              go_wp2_with fail
              go_roundw
              case rel => exact ⟨s + 1, by go_num, by omega, by omega, hO4, hb⟩
              case measure => simp [intOf]; omega
    · obtain rfl : N = s := by omega
      have wN : IntKind.i64.wrap ((N : Int) - 1) = ((N - 1 : Nat) : Int) := by rw [show (N : Int) - 1 = ((N - 1 : Nat) : Int) by omega]; exact IntWalk.i64_in _ (by omega)
      obtain ⟨L, hL⟩ : ∃ L, N - 1 = L := ⟨_, rfl⟩
      have hLN : L < N := by omega
      have c1 := hO.out.cell hLN
      rw [show detV A n N 0 L = .int .u8 ((detS A n L).val : Int) by unfold detV; rw [if_pos hLN]; rfl] at c1
      rw [hL] at wN hfin
      have l0 : (0 : Int) ≤ (L : Int) := by omega
      have l1 : (L : Int) < (N : Int) := by omega
      clear hL
      go_wp2_with fail
      go_ret
      exact ⟨by rw [hfin.out]; rfl, hb.out⟩
set_option maxRecDepth 100000 in
set_option maxHeartbeats 8000000 in
theorem ref_TableMul (S T : List Hd) (n m c : Nat) (ao bo : Option Addr) (ca cb : Nat) (w : World) (hS : TabIn w ao n S) (hT : TabIn w bo m T) (oS : TabOk (zof S) n m) (oT : TabOk (zof T) m c) :
    Calls Try.prog 42 #[.slice ao n ca, .slice bo m cb] w fun e w' => ∃ a2 c2 T2, e = .returned (.slice a2 n c2) ∧ TabIn w' a2 n T2 ∧ zof T2 = ofM n c (mulG (matM (zof S)) (matM (zof T)) m) ∧ Below w.heap.size w w' := by
  obtain ⟨A, hA⟩ : ∃ A, matM (zof S) = A := ⟨_, rfl⟩
  obtain ⟨B, hB⟩ : ∃ B, matM (zof T) = B := ⟨_, rfl⟩
  have FS := hS.fix oS
  have FT := hT.fix oT
  rw [hA] at FS
  rw [hB] at FT
  have r1 := oS.r1
  have r2 := oS.r12
  have r3 := oT.r1
  have r4 := oT.r12
  have r5 := oT.c1
  have r6 := oT.c24
  rw [hA, hB]
  obtain ⟨b0, o0, rfl, FS⟩ := FS
  obtain ⟨b2, o2, rfl, FT⟩ := FT
  have HS := Lib.hid FS
  have HT := Lib.hid FT
  obtain ⟨b3, o3, c3, k2, k3, FY⟩ := FT 0 (by omega)
  have HY0 : Hid (∀ X, Below w.heap.size w X → X.cell? ⟨b2, o2, none⟩ = some (.slice (some ⟨b3, o3, none⟩) c c3)) := fun X hX => (FY X hX).1
  have z1 : (0 : Int) < (n : Int) := by omega
  have z2 : (0 : Int) < (m : Int) := by omega
  clear hS hT oS oT hA hB FS FT FY
  go_enter Try.func42, Try.ntmps42
  go_wp2_with fail
  go_loopw [5, 13] (fun vo vi wr => ∃ (i : Nat) (T : List Hd), vi = .int .i64 i ∧ i ≤ n ∧ Hid (TabB wr w.heap.size 59 vo i T) ∧ Hid (zof T = ofM i c (mulG A B m)) ∧ Hid (Below w.heap.size w wr)) (fun _ vi _ => n - (intOf vi).toNat)
  case atStart => exact ⟨0, [], rfl, by omega, tabB_nil _ _ _, rfl, Below.refl _ _⟩
  case round =>
    obtain ⟨i, T, rfl, hi, hT, hZ, hb⟩ := hrel
    obtain ⟨wo, rfl⟩ : ∃ wo, wo = wr := ⟨_, rfl⟩
    by_cases hin : i < n
    · obtain ⟨b', o', c', hc2, hc3, hF⟩ := HS.out i hin
      have HRD := Lib.hid hF
      have x1 := HY0.out wo hb.out
      have i0 : (0 : Int) ≤ (i : Int) := by omega
      have i1 : (i : Int) < (n : Int) := by omega
      clear hF
      go_wp2_with fail
      go_loopw [7, 20] (fun vr vj wr => ∃ (j : Nat), vj = .int .i64 j ∧ j ≤ c ∧ Hid (wr.ownsRow wo.heap.size 5 1 vr j (u8s ((List.range j).map fun t => (mulG A B m i t).val))) ∧ Hid (Below wo.heap.size wo wr)) (fun _ vj _ => c - (intOf vj).toNat)
      case atStart => exact ⟨0, rfl, by omega, by exact World.ownsRow_nil _ _ _ _, Below.refl _ _⟩
      case round =>
        clear x1
        obtain ⟨j, rfl, hj, hO, hb3⟩ := hrel
        by_cases hjc : j < c
        · have HBj : Hid (Below w.heap.size w wr) := hb.out.trans (hb3.out.mono hb.out.size)
          have j0 : (0 : Int) ≤ (j : Int) := by omega
          have j1 : (j : Int) < (c : Int) := by omega
          obtain ⟨wj, rfl⟩ : ∃ wj, wj = wr := ⟨_, rfl⟩
          go_wp2_with fail
          go_loopw [9, 25] (fun vx vk wr => ∃ (k : Nat), vk = .int .i64 k ∧ k ≤ m ∧ vx = .int .u8 ((sumG (fun t => A i t * B t j) k).val : Int) ∧ Hid (Below wj.heap.size wj wr)) (fun _ vk _ => m - (intOf vk).toNat)
          case atStart => exact ⟨0, rfl, by omega, rfl, Below.refl _ _⟩
          case round =>
            obtain ⟨k, rfl, hk, rfl, hb4⟩ := hrel
            by_cases hkm : k < m
            · have HBk : Hid (Below w.heap.size w wr) := HBj.out.trans (hb4.out.mono HBj.out.size)
              obtain ⟨f1, f2, f3, hd2, hd3, hG⟩ := HT.out k hkm
              have d1 := (HRD.out wr HBk.out).1
              have d2 := (HRD.out wr HBk.out).2 k hkm
              have d3 := (hG wr HBk.out).1
              have d4 := (hG wr HBk.out).2 j hjc
              obtain ⟨p, hp⟩ : ∃ p, (sumG (fun t => A i t * B t j) k).val = p := ⟨_, rfl⟩
              obtain ⟨x, hx⟩ : ∃ x, (A i k).val = x := ⟨_, rfl⟩
              obtain ⟨q, hq⟩ : ∃ q, (B k j).val = q := ⟨_, rfl⟩
              have p1 : p < 256 := by rw [← hp]; exact GF.lt _
              have x256 : x < 256 := by rw [← hx]; exact GF.lt _
              have q1 : q < 256 := by rw [← hq]; exact GF.lt _
              rw [hx] at d2
              rw [hq] at d4
              obtain ⟨r, hr⟩ : ∃ r, gmul x q = r := ⟨_, rfl⟩
              have r1' : r < 256 := by rw [← hr]; exact gmul_lt x256
              obtain ⟨s, hs⟩ : ∃ s : Nat, p ^^^ r = s := ⟨_, rfl⟩
              have e1 : bits .xor .u8 (p : Int) (r : Int) = (s : Int) := by rw [u8_xor_nat p r p1 r1', hs]
              have CM := Lib.hid (fun W => ref_Times x q W x256 q1)
              rw [hr] at CM
              have hval : Hid ((sumG (fun t => A i t * B t j) (k + 1)).val = s) := Lib.hid (by show (sumG (fun t => A i t * B t j) k + A i k * B k j).val = s; rw [GF.add_val, GF.mul_val, hp, hx, hq, hr, hs])
              have k0' : (0 : Int) ≤ (k : Int) := by omega
              have k1' : (k : Int) < (m : Int) := by omega
              rw [hp]
              clear hp hx hq hr hs hG
              go_wp2_with fail
              go_quiet ((go_at_call 46; (first | (with_reducible exact quiet_on (fun W' => CM.out W')) | (with_reducible exact quiet_at (fun W' => CM.out W')) | exact CM.out _)))
              go_wp2_with fail
              go_roundw
              case rel => exact ⟨k + 1, by go_num, by omega, by rw [hval.out], below_drewN hb4.out _⟩
              case measure => simp [intOf]; omega
            · obtain rfl : m = k := by omega
              have hO5 := Lib.hid (own_below hO.out hb4.out)
              have hB5 := Lib.hid (hb3.out.trans (hb4.out.mono hb3.out.size))
              obtain ⟨v, hv⟩ : ∃ v, (sumG (fun t => A i t * B t j) m).val = v := ⟨_, rfl⟩
              have HE : Hid (u8s ((List.range (j + 1)).map fun t => (mulG A B m i t).val) = u8s ((List.range j).map fun t => (mulG A B m i t).val) ++ [.int .u8 (v : Int)]) := by
                show _ = _
                rw [List.range_succ, List.map_append, u8s_append, ← hv]; rfl
              rw [hv]
              clear hv
              go_wp2_with (first
                | (at_builtin; go_must (refine app_one2 rfl (.tmp 46) (.tmp 48) 59 rfl wo.heap.size 5 _ 1 1 Try.underlying59 u8Info _ j _ (by rfl) hO5.out [.int .u8 (v : Int)] (by rfl) rfl (by intro u hu; simp at hu; subst hu; rfl) (by unfold maxLen; omega) (by omega) hB5.out.size ?_); intro v6 w6 hown6 hgr6 hb6 hvb; rw [← HE.out] at hown6; have hO6 := Lib.hid hown6; have hb7 := Lib.hid (hB5.out.trans hb6))
                | fail)
              clear hown6 hgr6 hb6 hvb
              go_roundw
              case rel => exact ⟨j + 1, by go_num, by omega, hO6, hb7⟩
              case measure => simp [intOf]; omega
        · obtain rfl : c = j := by omega
          obtain ⟨g7, c7, rfl, hr7, hl7, hg7, _⟩ := row_made hO.out (fun z hz => by obtain ⟨y, _, rfl⟩ := List.mem_map.1 hz; exact GF.lt _) (by omega)
          have hT7 := Lib.hid (hT.out.below hb3.out)
          have hB7 := Lib.hid (hb.out.trans (hb3.out.mono hb.out.size))
          have hap := hT.out.apart hg7 (cap := c7) (Z := (List.range c).map fun j => (mulG A B m i j).val)
          go_wp2_with (first
            | (at_builtin; go_must (refine app_one2 rfl (.tmp 51) (.tmp 53) 51 rfl w.heap.size 59 _ 1 24 Try.underlying51 rowsInfo _ i (T.map Hd.v) (by rfl) hT7.out.top [.slice (some ⟨g7, 0, none⟩) c c7] (by rfl) rfl (by intro u hu; simp at hu; subst hu; rfl) (by unfold maxLen; omega) (by omega) hB7.out.size ?_); intro v8 w8 hown8 hgr8 hb8 hvb8; have X := TabB.push (x := ⟨some ⟨g7, 0, none⟩, c7, (List.range c).map fun j => (mulG A B m i j).val⟩) hT7.out hr7 (by simp only; omega) hap hgr8 (by unfold Hd.v at hown8 ⊢; simp only; rw [hl7]; exact hown8) hvb8; have hT8 := Lib.hid X; have hB8 := Lib.hid (hB7.out.trans hb8); clear X)
            | fail)
          have hZ8 : Hid (zof (T ++ [(⟨some ⟨g7, 0, none⟩, c7, (List.range c).map fun j => (mulG A B m i j).val⟩ : Hd)]) = ofM (i + 1) c (mulG A B m)) := Lib.hid (by
            rw [show zof (T ++ [(⟨some ⟨g7, 0, none⟩, c7, (List.range c).map fun j => (mulG A B m i j).val⟩ : Hd)]) = zof T ++ [(List.range c).map fun j => (mulG A B m i j).val] by simp [zof], hZ.out]
            unfold ofM
            rw [List.range_succ, List.map_append]
            rfl)
          clear hown8 hgr8 hb8 hvb8 hr7 hl7 hap
          go_roundw
          case rel => exact ⟨i + 1, _, by go_num, by omega, hT8, hZ8, hB8⟩
          case measure => simp [intOf]; omega
    · obtain rfl : n = i := by omega
      obtain ⟨aT, cT, rfl, tT, _, t1, t2⟩ := hT.out.tab
      go_wp2_with fail
      go_ret
      exact ⟨_, _, _, rfl, tT, hZ.out, hb.out⟩
end Go.Proofs.Ytgdcmebhopjfaaa
