/- irred.power, the reference's Powered, irred.monic. -/
import Derived.Test.YtmeffbooabionaaPoly8
import Derived.Test.YtmeffbooabionaaFormK
set_option linter.unusedVariables false
set_option linter.unusedSimpArgs false
namespace Go.Proofs.Ytmeffbooabionaa
open Go.RowKit

/-- A power, or a number that is too large. -/
def PwOk (p n v : Nat) : Prop := (p ^ n ≤ 1000000 → v = p ^ n) ∧ (1000000 < p ^ n → 1000000 < v) ∧ v ≤ 997000000
theorem pw_mono {p i j : Nat} (hp : 1 ≤ p) (h : i ≤ j) : p ^ i ≤ p ^ j := Nat.pow_le_pow_right hp h
set_option maxRecDepth 100000 in
set_option maxHeartbeats 2000000 in
theorem irr_power (p n : Nat) (w : World) (hp2 : 2 ≤ p) (hp : p ≤ 997) (hn : n ≤ 1000000) :
    Calls Try.prog 45 #[.int .i64 p, .int .i64 n] w fun e w' => (∃ v : Nat, e = .returned (.int .i64 v) ∧ PwOk p n v) ∧ w = w' := by
  go_enter Try.func45, Try.ntmps45
  go_wp2_with fail
  go_loopw [5, 7] (fun vo vj wr => ∃ (j v : Nat), vo = .int .i64 v ∧ vj = .int .i64 j ∧ j ≤ n ∧ v ≤ 1000000 ∧ Hid (p ^ j = v) ∧ w = wr) (fun _ vj _ => n - (intOf vj).toNat)
  case atStart => exact ⟨0, 1, rfl, rfl, Nat.zero_le _, by decide, rfl, rfl⟩
  case round =>
    obtain ⟨j, v, rfl, rfl, hj, hv, hP, rfl⟩ := hrel
    by_cases hjn : j < n
    · obtain ⟨u, hu⟩ : ∃ u, v * p = u := ⟨_, rfl⟩
      have hul : u ≤ 997000000 := by rw [← hu]; exact Nat.le_trans (Nat.mul_le_mul hv hp) (by decide)
      have eu : (v : Int) * (p : Int) = (u : Int) := by rw [← hu, Int.natCast_mul]
      have hP2 : Hid (p ^ (j + 1) = u) := by show _ = _; rw [Nat.pow_succ, hP.out, hu]
      have hjz : (j : Int) < (n : Int) := by omega
      clear hu
      by_cases hb : 1000000 < u
      · have hbz : (1000000 : Int) < (u : Int) := by omega
        have hm := pw_mono (i := j + 1) (j := n) (show 1 ≤ p by omega) (by omega)
        rw [hP2.out] at hm
        have HF : Hid (PwOk p n u) := ⟨fun h => by omega, fun _ => hb, hul⟩
        clear hm
        go_wp2_with fail
        go_ret
        exact ⟨⟨u, rfl, HF.out⟩, rfl⟩
      · have hbz : ¬ ((1000000 : Int) < (u : Int)) := by omega
        go_wp2_with fail
        go_roundw
        case rel => exact ⟨j + 1, u, rfl, by go_num, by omega, by omega, hP2, by first | rfl | trivial⟩
        case measure => simp [intOf]; omega
    · obtain rfl : n = j := by omega
      have HF : Hid (PwOk p n v) := ⟨fun _ => hP.out.symm, fun h => by rw [hP.out] at h; exact h, by omega⟩
      go_wp2_with fail
      go_ret
      exact ⟨⟨v, rfl, HF.out⟩, rfl⟩
set_option maxRecDepth 100000 in
set_option maxHeartbeats 2000000 in
theorem ref_Powered (p n : Nat) (w : World) (hp2 : 2 ≤ p) (hp : p ≤ 997) (hn : n ≤ 1000000) :
    Calls Try.prog 25 #[.int .i64 p, .int .i64 n] w fun e w' => (∃ v : Nat, e = .returned (.int .i64 v) ∧ PwOk p n v) ∧ w = w' := by
  go_enter Try.func25, Try.ntmps25
  go_wp2_with fail
  go_loopw [5, 7] (fun vo vj wr => ∃ (j v : Nat), vo = .int .i64 v ∧ vj = .int .i64 j ∧ j ≤ n ∧ v ≤ 1000001 ∧ Hid ((v ≤ 1000000 → p ^ j = v) ∧ (1000000 < v → 1000000 < p ^ j)) ∧ w = wr) (fun _ vj _ => n - (intOf vj).toNat)
  case atStart => exact ⟨0, 1, rfl, rfl, Nat.zero_le _, by decide, ⟨fun _ => rfl, fun h => by omega⟩, rfl⟩
  case round =>
    obtain ⟨j, v, rfl, rfl, hj, hv, hP, rfl⟩ := hrel
    by_cases hjn : j < n
    · obtain ⟨u, hu⟩ : ∃ u, v * p = u := ⟨_, rfl⟩
      have hul : u ≤ 1000000000 := by rw [← hu]; exact Nat.le_trans (Nat.mul_le_mul hv hp) (by decide)
      have hvu : v ≤ u := by rw [← hu]; exact Nat.le_mul_of_pos_right v (by omega)
      have eu : (v : Int) * (p : Int) = (u : Int) := by rw [← hu, Int.natCast_mul]
      have hjz : (j : Int) < (n : Int) := by omega
      have hps : p ^ (j + 1) = p ^ j * p := by rw [Nat.pow_succ]
      by_cases hb : 1000001 < u
      · have hbz : (1000001 : Int) < (u : Int) := by omega
        have hbz2 : ¬ ((u : Int) < 1000001) := by omega
        have hbz3 : ¬ ((u : Int) ≤ 1000001) := by omega
        have HN : Hid ((1000001 ≤ 1000000 → p ^ (j + 1) = 1000001) ∧ (1000000 < 1000001 → 1000000 < p ^ (j + 1))) := by
          refine ⟨fun h => by omega, fun _ => ?_⟩
          rw [hps]
          by_cases hv2 : v ≤ 1000000
          · rw [hP.out.1 hv2, hu]; omega
          · have h1 := hP.out.2 (by omega)
            have h2 : p ^ j ≤ p ^ j * p := Nat.le_mul_of_pos_right _ (by omega)
            omega
        clear hu hps
        go_wp2_with fail
        go_roundw
        case rel => exact ⟨j + 1, 1000001, by (first | rfl | (congr 1; omega)), by go_num, by omega, by omega, HN, by first | rfl | trivial⟩
        case measure => simp [intOf]; omega
      · have hbz : ¬ ((1000001 : Int) < (u : Int)) := by omega
        have hbz3 : (u : Int) ≤ 1000001 := by omega
        have HN : Hid ((u ≤ 1000000 → p ^ (j + 1) = u) ∧ (1000000 < u → 1000000 < p ^ (j + 1))) := by
          rw [hps]
          refine ⟨fun h => ?_, fun h => ?_⟩
          · rw [hP.out.1 (by omega), hu]
          · by_cases hv2 : v ≤ 1000000
            · rw [hP.out.1 hv2, hu]; exact h
            · have h1 := hP.out.2 (by omega)
              have h2 : p ^ j ≤ p ^ j * p := Nat.le_mul_of_pos_right _ (by omega)
              omega
        clear hu hps
        rcases Nat.lt_or_ge u 1000001 with hlt | hge
        · have hz1 : (u : Int) < 1000001 := by omega
          go_wp2_with fail
          go_roundw
          case rel => exact ⟨j + 1, u, by (first | rfl | (congr 1; omega)), by go_num, by omega, by omega, HN, by first | rfl | trivial⟩
          case measure => simp [intOf]; omega
        · obtain rfl : u = 1000001 := by omega
          go_wp2_with fail
          go_roundw
          case rel => exact ⟨j + 1, 1000001, by (first | rfl | (congr 1; omega)), by go_num, by omega, by omega, HN, by first | rfl | trivial⟩
          case measure => simp [intOf]; omega
    · obtain rfl : n = j := by omega
      have HF : Hid (PwOk p n v) := by
        refine ⟨fun h => ?_, fun h => ?_, by omega⟩
        · by_cases hv2 : v ≤ 1000000
          · exact (hP.out.1 hv2).symm
          · have := hP.out.2 (by omega); omega
        · by_cases hv2 : v ≤ 1000000
          · have := hP.out.1 hv2; omega
          · omega
      go_wp2_with fail
      go_ret
      exact ⟨⟨v, rfl, HF.out⟩, rfl⟩
/-! ### The monic polynomial with a number -/
def dig (p k i : Nat) : Nat := k / p ^ i % p
def digsN (p d k : Nat) : List Nat := (List.range d).map (dig p k)
def monN (p d k : Nat) : List Nat := digsN p d k ++ [1]
/-- Its coefficients. -/
def mon (p d k : Nat) : List Int := (monN p d k).map fun x : Nat => (x : Int)
theorem mon_len (p d k : Nat) : (mon p d k).length = d + 1 := by unfold mon monN digsN; simp
def monF (p d k j i : Nat) : Value := .int .i64 (if i = d then 1 else if i < j then (dig p k i : Int) else 0)
theorem monF_row (p d k : Nat) : rowF (d + 1) (monF p d k d) = (mon p d k).map (Value.int .i64) := by
  apply List.ext_getElem?
  intro i
  by_cases h : i < d + 1
  · rw [rowF_get _ h]
    unfold mon monN digsN monF
    rw [List.getElem?_map, List.getElem?_map]
    by_cases hi : i = d
    · subst hi
      rw [if_pos rfl, List.getElem?_append_right (by simp)]
      simp
    · rw [if_neg hi, if_pos (by omega), List.getElem?_append_left (by simp; omega)]
      simp [show i < d by omega]
  · rw [List.getElem?_eq_none (by rw [rowF_length]; omega), List.getElem?_eq_none (by rw [List.length_map, mon_len]; omega)]
theorem intInfoI : ElemRow Try.prog 3 (.int .i64 0) 1 8 := elemRow_of (by kernel_rfl) rfl (by omega)
set_option maxRecDepth 100000 in
set_option maxHeartbeats 2000000 in
theorem irr_monic (p d k : Nat) (w : World) (hp2 : 2 ≤ p) (hp : p ≤ 997) (hd : d ≤ 40) (hk : k ≤ 1000000000) :
    Calls Try.prog 48 #[.int .i64 p, .int .i64 d, .int .i64 k] w fun e w' => ∃ g, e = .returned (.slice (some ⟨g, 0, none⟩) (d + 1 : Nat) (d + 1 : Nat)) ∧ w'.ownsRow w.heap.size 3 1 (.slice (some ⟨g, 0, none⟩) (d + 1) (d + 1)) (d + 1) ((mon p d k).map (Value.int .i64)) ∧ Below w.heap.size w w' := by
  obtain ⟨M, hM⟩ : ∃ M, d + 1 = M := ⟨_, rfl⟩
  have eM : (d : Int) + 1 = (M : Int) := by omega
  have HROW := Lib.hid (monF_row p d k)
  rw [hM] at HROW ⊢
  have hMd : M ≤ 41 := by omega
  have hdM : (d : Int) < (M : Int) := by omega
  have hdM2 : d < M := by omega
  have HB0 := Lib.hid (Below.refl w.heap.size w)
  clear hM
  go_enter Try.func48, Try.ntmps48
  go_wp2_with (first
    | (at_make; refine make_own rfl _ _ 32 rfl w.heap.size 3 _ 8 Try.underlying32 intInfoI rfl _ _ _ _ M (by rfl) (by rfl) rfl rfl (by omega) (by unfold maxLen; omega) (Nat.le_refl _) ?_; intro w2 hown2 hg2; have c0 := hown2.cell hdM2; have f0 := hown2.frozen d)
    | fail)
  have hb2 := below_of_grown hg2 (Nat.le_refl w.heap.size) (by intro k hk; cases hk)
  have st := hown2.store d (.int .i64 1)
  have hO := Lib.hid (st.1.congr (f' := monF p d k 0) (fun i _ => by
    unfold monF
    by_cases hi : i = d
    · rw [if_pos hi, if_pos hi]
    · rw [if_neg hi, if_neg hi, if_neg (by omega)]))
  have hB := Lib.hid (hb2.setCell (p := ⟨w.heap.size, d, none⟩) (Nat.le_refl _) (.int .i64 1))
  clear st hown2 hb2 hg2 c0 f0
  obtain ⟨w3, hw3⟩ : ∃ w3, w2.setCell ⟨w.heap.size, d, none⟩ (.int .i64 1) = w3 := ⟨_, rfl⟩
  rw [hw3] at hO hB ⊢
  clear hw3
  go_loopw [2, 16] (fun vk vj wr => ∃ (j q : Nat), vk = .int .i64 q ∧ vj = .int .i64 j ∧ j ≤ d ∧ q ≤ 1000000000 ∧ Hid (k / p ^ j = q) ∧ Hid (Own wr w.heap.size 3 w.heap.size M M (monF p d k j)) ∧ Hid (Below w.heap.size w wr)) (fun _ vj _ => d - (intOf vj).toNat)
  case atStart => exact ⟨0, k, rfl, rfl, Nat.zero_le _, hk, by show k / p ^ 0 = k; simp, hO, hB⟩
  case round =>
    clear hO hB
    obtain ⟨j, q, rfl, rfl, hj, hq, hQ, hO, hB⟩ := hrel
    by_cases hjd : j < d
    · obtain ⟨r, hr⟩ : ∃ r, q % p = r := ⟨_, rfl⟩
      obtain ⟨s, hs⟩ : ∃ s, q / p = s := ⟨_, rfl⟩
      have er : Int.tmod (q : Int) (p : Int) = (r : Int) := by rw [← hr]; exact Int.ofNat_tmod q p
      have er2 : (q : Int) % (p : Int) = (r : Int) := by rw [← hr]; rfl
      have es : Int.tdiv (q : Int) (p : Int) = (s : Int) := by rw [← hs]; rfl
      have es2 : (q : Int) / (p : Int) = (s : Int) := by rw [← hs]; rfl
      have hp0 : ¬ ((p : Int) = 0) := by omega
      have hsl : s ≤ 1000000000 := by rw [← hs]; exact Nat.le_trans (Nat.div_le_self _ _) hq
      have hrl : r < p := by rw [← hr]; exact Nat.mod_lt _ (by omega)
      have HQ2 : Hid (k / p ^ (j + 1) = s) := by show _ = _; rw [Nat.pow_succ, ← Nat.div_div_eq_div_mul, hQ.out, hs]
      have HD : Hid (dig p k j = r) := by show _ = _; unfold dig; rw [hQ.out, hr]
      have hjM : j < M := by omega
      have hjMz : (j : Int) < (M : Int) := by omega
      have hjz : (j : Int) < (d : Int) := by omega
      have cj := hO.out.cell hjM
      have fj := hO.out.frozen j
      have st := hO.out.store j (.int .i64 (r : Int))
      have hO2 : Hid (Own (wr.setCell ⟨w.heap.size, j, none⟩ (.int .i64 (r : Int))) w.heap.size 3 w.heap.size M M (monF p d k (j + 1))) := st.1.congr fun i _ => by
        show (if i = j then _ else monF p d k j i) = _
        unfold monF
        by_cases hi : i = j
        · subst hi
          rw [if_pos rfl, if_neg (by omega), if_pos (by omega), HD.out]
        · rw [if_neg hi]
          by_cases hi2 : i = d
          · rw [if_pos hi2, if_pos hi2]
          · rw [if_neg hi2, if_neg hi2]
            by_cases hi3 : i < j
            · rw [if_pos hi3, if_pos (by omega)]
            · rw [if_neg hi3, if_neg (by omega)]
      have hB2 : Hid (Below w.heap.size w (wr.setCell ⟨w.heap.size, j, none⟩ (.int .i64 (r : Int)))) := hB.out.setCell (Nat.le_refl _) _
      unfold monF at cj
      rw [if_neg (by omega), if_neg (by omega)] at cj
      clear st hr hs
      go_wp2_with fail
      go_roundw
      case rel => exact ⟨j + 1, s, rfl, by go_num, by omega, hsl, HQ2, hO2, hB2⟩
      case measure => simp [intOf]; omega
    · obtain rfl : d = j := by omega
      have HO : Hid (wr.ownsRow w.heap.size 3 1 (.slice (some ⟨w.heap.size, 0, none⟩) M M) M ((mon p d k).map (Value.int .i64))) := by
        have := hO.out
        unfold Own at this
        rw [HROW.out] at this
        exact this
      go_wp2_with fail
      go_ret
      exact ⟨w.heap.size, rfl, HO.out, hB.out⟩
end Go.Proofs.Ytmeffbooabionaa
