/- slices.partitionEqualOrdered at uint16. (Printed by wip/tools/gen_sortu.py.) -/
import Derived.Test.YtmeffbooabionaaSoD
import Derived.Deep.CutBlock
import Derived.Deep.DeepCutAuto
set_option linter.unusedVariables false
set_option linter.unusedSimpArgs false
namespace Go.Proofs.Ytmeffbooabionaa
open Go.RowKit

section
variable {p : Nat → Bool} {d dk : Array Nat} {a b pv i j i2 j2 : Nat}
theorem scU_go (h : i ≤ j) (hp : p d[i]! = true) : Sort.scanUp p d j i = Sort.scanUp p d j (i + 1) := by rw [Sort.scanUp, if_pos]; simp [h, hp]
theorem scU_end (h : ¬ i ≤ j ∨ p d[i]! = false) : Sort.scanUp p d j i = i := by
  rw [Sort.scanUp, if_neg]
  rcases h with h | h <;> simp [h]
theorem scD_go (h : i ≤ j) (h0 : 0 < j) (hp : p d[j]! = true) : Sort.scanDown p d i j = Sort.scanDown p d i (j - 1) := by
  obtain ⟨q, rfl⟩ : ∃ q, j = q + 1 := ⟨j - 1, by omega⟩
  rw [Sort.scanDown, if_pos]
  · rfl
  · simp [h, hp]
theorem scD_end (h : ¬ i ≤ j ∨ p d[j]! = false) : Sort.scanDown p d i j = j := by
  cases j with
  | zero => rfl
  | succ q =>
    rw [Sort.scanDown, if_neg]
    rcases h with h | h <;> simp [h]
theorem pe_end (h1 : Sort.scanUp (fun x => !ltN dk[a]! x) dk j i = i2) (h2 : Sort.scanDown (fun x => ltN dk[a]! x) dk i2 j = j2) (h : j2 < i2) : Sort.partEqLoop ltN a i j dk = (i2, dk) := by
  rw [Sort.partEqLoop]; simp only [h1, h2]; rw [if_pos h]
theorem pe_go (h1 : Sort.scanUp (fun x => !ltN dk[a]! x) dk j i = i2) (h2 : Sort.scanDown (fun x => ltN dk[a]! x) dk i2 j = j2) (h : i2 < j2) (hi : i ≤ i2) (hj : j2 ≤ j) :
    Sort.partEqLoop ltN a i j dk = Sort.partEqLoop ltN a (i2 + 1) (j2 - 1) (Sort.swp dk i2 j2) := by
  rw [Sort.partEqLoop]; simp only [h1, h2]; rw [if_neg (by omega), dif_pos (by omega)]
theorem pt_end (h1 : Sort.scanUp (fun x => ltN x dk[a]!) dk j i = i2) (h2 : Sort.scanDown (fun x => !ltN x dk[a]!) dk i2 j = j2) (h : j2 < i2) : Sort.partLoop ltN a i j dk = (j2, dk) := by
  rw [Sort.partLoop]; simp only [h1, h2]; rw [if_pos h]
theorem pt_go (h1 : Sort.scanUp (fun x => ltN x dk[a]!) dk j i = i2) (h2 : Sort.scanDown (fun x => !ltN x dk[a]!) dk i2 j = j2) (h : i2 < j2) (hi : i ≤ i2) (hj : j2 ≤ j) :
    Sort.partLoop ltN a i j dk = Sort.partLoop ltN a (i2 + 1) (j2 - 1) (Sort.swp dk i2 j2) := by
  rw [Sort.partLoop]; simp only [h1, h2]; rw [if_neg (by omega), dif_pos (by omega)]
end
set_option maxRecDepth 100000 in
set_option maxHeartbeats 8000000 in
theorem so_partEq (n : Nat) (d : Array Nat) (a b pv base g cap : Nat) (w : World) (hn : n ≤ 1000000) (hd : d.size = n) (hap : a ≤ pv) (hpb : pv < b) (hbn : b ≤ n) (hO : Own w base 29 g n cap (eU d)) (hb : base ≤ w.heap.size) :
    Calls Try.prog 91 #[.slice (some ⟨g, 0, none⟩) n cap, .int .i64 a, .int .i64 b, .int .i64 pv] w (SoPost base n g cap w (.int .i64 ((Sort.partitionEqual ltN d a b pv).1 : Nat)) (Sort.partitionEqual ltN d a b pv).2) := by
  have HB : Hid (base ≤ w.heap.size) := hb
  have hc := hO.caps
  have HO : Hid (Own w base 29 g n cap (eU d)) := hO
  have hc1 : (n : Int) ≤ (cap : Int) := by omega
  have hc2 := hc.1
  have hc3 := hc.2
  clear hO hb hc
  unfold Sort.partitionEqual
  obtain ⟨L, hL⟩ : ∃ L, b - 1 = L := ⟨_, rfl⟩
  rw [hL]
  have eL : (b : Int) - 1 = (L : Int) := by omega
  have hLn : L < n := by omega
  have haL : a ≤ L := by omega
  have HBL := Below.refl base w
  have HB0 := Lib.hid HBL
  clear hL HBL
  go_enter Try.func91, Try.ntmps91
  go_upto_region 1 with fail
  go_cut [] (fun wc => Hid (Own wc base 29 g n cap (eU (Sort.swp d a pv))) ∧ Hid (Below base w wc))
  case first =>
    obtain ⟨x, hx⟩ : ∃ x, d[a]! = x := ⟨_, rfl⟩
    have c1 := (HO.out.cell (show a < n by omega)).trans (congrArg some (eU_of hx))
    have f1 := HO.out.frozen a
    have q1 : (0 : Int) ≤ (a : Int) := by omega
    have q2 : (a : Int) < (n : Int) := by omega
    by_cases hpq : a = pv
    · obtain rfl : a = pv := hpq
      have HO2 := Lib.hid (own_swap HO.out (show d.size = n by assumption) (show a < n by omega) (show a < n by omega) hx hx)
      have HB2 := Lib.hid (below_swap (i := a) (j := a) (u := .int .u16 (x : Int)) (v := .int .u16 (x : Int)) HO.out HB0.out HB.out)
      clear hx
      go_wp2_with fail
      go_region
      all_goals
        go_wp2_with fail
        go_meet
        exact ⟨own_drew HO2.out, below_drewN HB2.out 1⟩
    · have hpqz : (a : Int) ≠ (pv : Int) := by omega
      obtain ⟨y, hy⟩ : ∃ y, d[pv]! = y := ⟨_, rfl⟩
      have c2 := (HO.out.cell (show pv < n by omega)).trans (congrArg some (eU_of hy))
      have f2 := HO.out.frozen pv
      have q3 : (0 : Int) ≤ (pv : Int) := by omega
      have q4 : (pv : Int) < (n : Int) := by omega
      have HO2 := Lib.hid (own_swap HO.out (show d.size = n by assumption) (show a < n by omega) (show pv < n by omega) hx hy)
      have HB2 := Lib.hid (below_swap (i := a) (j := pv) (u := .int .u16 (y : Int)) (v := .int .u16 (x : Int)) HO.out HB0.out HB.out)
      clear hx hy
      go_wp2_with fail
      go_region
      all_goals
        go_wp2_with fail
        go_meet
        exact ⟨own_drew HO2.out, below_drewN HB2.out 1⟩
  case rest =>
    obtain ⟨hO1, hB1⟩ := hcut
    try clear HO HB0
    obtain ⟨d1, hd1⟩ : ∃ d1, Sort.swp d a pv = d1 := ⟨_, rfl⟩
    have hs1 : d1.size = n := by rw [← hd1, sz_swp]; exact hd
    rw [hd1] at hO1
    have HD1 := Lib.hid hd1
    clear hd1
    go_wp2_with fail
    go_loopg [9, 10] (L + 1) (fun k s9 s10 wr => ∃ (i j : Nat) (dk : Array Nat), s9 = .int .i64 i ∧ s10 = .int .i64 j ∧ a + 1 ≤ i ∧ i ≤ j + 1 ∧ j ≤ L ∧ dk.size = n ∧ j + 1 - i ≤ k ∧ Hid (Own wr base 29 g n cap (eU dk)) ∧ Hid (Sort.partEqLoop ltN a i j dk = Sort.partEqLoop ltN a (a + 1) L d1) ∧ Hid (Below base w wr))
    case atStart => exact ⟨a + 1, L, d1, by go_num, rfl, Nat.le_refl _, by omega, Nat.le_refl _, hs1, by omega, hO1, rfl, hB1⟩
    case round =>
      clear hO1 hB1
      obtain ⟨i0, j0, dk, rfl, rfl, ha0, hij0, hj0, hdk, hk, hO, hE, hB⟩ := hrel
      go_upto_block 2 with fail
      go_cut [9] (fun s wc => ∃ i : Nat, s = .int .i64 i ∧ i0 ≤ i ∧ i ≤ j0 + 1 ∧ Hid (Sort.scanUp (fun x => !ltN dk[a]! x) dk j0 i0 = i) ∧ Hid (i ≤ j0 → (!ltN dk[a]! dk[i]!) = false) ∧ Hid (Own wc base 29 g n cap (eU dk)) ∧ Hid (Below base w wc))
      case first =>
        go_wp2_with fail
        go_loopg [9] (j0 + 1 - (i0)) (fun k s wc => ∃ i : Nat, s = .int .i64 i ∧ i0 ≤ i ∧ i ≤ j0 + 1 ∧ k = j0 + 1 - (i) ∧ Hid (Sort.scanUp (fun x => !ltN dk[a]! x) dk j0 i = Sort.scanUp (fun x => !ltN dk[a]! x) dk j0 i0) ∧ Hid (Own wc base 29 g n cap (eU dk)) ∧ Hid (Below base w wc))
        case atStart => exact ⟨i0, rfl, by omega, by omega, rfl, rfl, hO, hB⟩
        case round =>
          obtain ⟨i, rfl, hi0, hi1, hgk, hS, hOs, hBs⟩ := hrel
          try clear hO hB
          by_cases hij : i ≤ j0
          · obtain ⟨x, hx⟩ : ∃ x, dk[i]! = x := ⟨_, rfl⟩
            obtain ⟨v, hv⟩ : ∃ v, dk[a]! = v := ⟨_, rfl⟩
            have c1 := (hOs.out.cell (show i < n by omega)).trans (congrArg some (eU_of hx))
            have c2 := (hOs.out.cell (show a < n by omega)).trans (congrArg some (eU_of hv))
            have q1 : (0 : Int) ≤ (i : Int) := by omega
            have q2 : (i : Int) < (n : Int) := by omega
            have q3 : (0 : Int) ≤ (a : Int) := by omega
            have q4 : (a : Int) < (n : Int) := by omega
            have t1 : (i : Int) ≤ (j0 : Int) := by omega
            have t2 : decide ((i : Int) ≤ (j0 : Int)) = true := by simp; omega
            have CL := Lib.hid (fun W => cmp_Less_u16 v x W)
            obtain ⟨B, hLB⟩ : ∃ B, ltN v x = B := ⟨_, rfl⟩
            rw [hLB] at CL
            cases B
            · have hpv : (!ltN dk[a]! dk[i]!) = true := by rw [hx, hv, hLB] <;> rfl
              have hS2 := Lib.hid ((scU_go (p := (fun x => !ltN dk[a]! x)) hij hpv).symm.trans hS.out)
              have HP := Lib.hid hpv
              clear hx hv hLB hpv
              go_wp2_with fail
              go_quiet ((go_at_call 90; (first | (with_reducible exact quiet_on (fun W' => CL.out W')) | (with_reducible exact quiet_at (fun W' => CL.out W')) | exact CL.out _)))
              go_wp2_with fail
              go_roundg (j0 + 1 - (i + 1))
              case measure => omega
              case rel => exact ⟨i + 1, by go_num, by omega, by omega, by omega, hS2, hOs.out.drewN _, below_drewN hBs.out _⟩
            · have hpv : (!ltN dk[a]! dk[i]!) = false := by rw [hx, hv, hLB] <;> rfl
              have hSe := Lib.hid (hS.out.symm.trans (scU_end (p := (fun x => !ltN dk[a]! x)) (.inr hpv)))
              have HP := Lib.hid hpv
              clear hx hv hLB hpv
              go_wp2_with fail
              go_quiet ((go_at_call 90; (first | (with_reducible exact quiet_on (fun W' => CL.out W')) | (with_reducible exact quiet_at (fun W' => CL.out W')) | exact CL.out _)))
              go_wp2_with fail
              go_meet
              exact ⟨i, rfl, by omega, by omega, hSe, fun _ => HP.out, hOs.out.drewN _, below_drewN hBs.out _⟩
          · have t1 : ¬ ((i : Int) ≤ (j0 : Int)) := by omega
            have t2 : decide ((i : Int) ≤ (j0 : Int)) = false := by simp; omega
            have hSe := Lib.hid (hS.out.symm.trans (scU_end (p := (fun x => !ltN dk[a]! x)) (.inl hij)))
            go_wp2_with fail
            go_quiet (fail)
            go_wp2_with fail
            go_meet
            exact ⟨i, rfl, by omega, by omega, hSe, fun h => absurd h hij, hOs.out.drewN _, below_drewN hBs.out _⟩
      case rest =>
        obtain ⟨i2, rfl, hi2a, hi2b, hSi2, hPi2, hO2, hB2⟩ := hcut
        try clear hO hB
        go_upto_block 4 with fail
        go_cut [10] (fun s wc => ∃ i : Nat, s = .int .i64 i ∧ i2 ≤ i + 1 ∧ i ≤ j0 ∧ Hid (Sort.scanDown (fun x => ltN dk[a]! x) dk i2 j0 = i) ∧ Hid (i2 ≤ i → (ltN dk[a]! dk[i]!) = false) ∧ Hid (Own wc base 29 g n cap (eU dk)) ∧ Hid (Below base w wc))
        case first =>
          go_wp2_with fail
          go_loopg [10] (j0) (fun k s wc => ∃ i : Nat, s = .int .i64 i ∧ i2 ≤ i + 1 ∧ i ≤ j0 ∧ k = i ∧ Hid (Sort.scanDown (fun x => ltN dk[a]! x) dk i2 i = Sort.scanDown (fun x => ltN dk[a]! x) dk i2 j0) ∧ Hid (Own wc base 29 g n cap (eU dk)) ∧ Hid (Below base w wc))
          case atStart => exact ⟨j0, rfl, by omega, by omega, rfl, rfl, hO2, hB2⟩
          case round =>
            obtain ⟨i, rfl, hi0, hi1, hgk, hS, hOs, hBs⟩ := hrel
            try clear hO2 hB2
            by_cases hij : i2 ≤ i
            · obtain ⟨x, hx⟩ : ∃ x, dk[i]! = x := ⟨_, rfl⟩
              obtain ⟨v, hv⟩ : ∃ v, dk[a]! = v := ⟨_, rfl⟩
              have c1 := (hOs.out.cell (show i < n by omega)).trans (congrArg some (eU_of hx))
              have c2 := (hOs.out.cell (show a < n by omega)).trans (congrArg some (eU_of hv))
              have q1 : (0 : Int) ≤ (i : Int) := by omega
              have q2 : (i : Int) < (n : Int) := by omega
              have q3 : (0 : Int) ≤ (a : Int) := by omega
              have q4 : (a : Int) < (n : Int) := by omega
              have t1 : (i2 : Int) ≤ (i : Int) := by omega
              have t2 : decide ((i2 : Int) ≤ (i : Int)) = true := by simp; omega
              have CL := Lib.hid (fun W => cmp_Less_u16 v x W)
              obtain ⟨B, hLB⟩ : ∃ B, ltN v x = B := ⟨_, rfl⟩
              rw [hLB] at CL
              cases B
              · have hpv : (ltN dk[a]! dk[i]!) = false := by rw [hx, hv, hLB] <;> rfl
                have hSe := Lib.hid (hS.out.symm.trans (scD_end (p := (fun x => ltN dk[a]! x)) (.inr hpv)))
                have HP := Lib.hid hpv
                clear hx hv hLB hpv
                go_wp2_with fail
                go_quiet ((go_at_call 90; (first | (with_reducible exact quiet_on (fun W' => CL.out W')) | (with_reducible exact quiet_at (fun W' => CL.out W')) | exact CL.out _)))
                go_wp2_with fail
                go_meet
                exact ⟨i, rfl, by omega, by omega, hSe, fun _ => HP.out, hOs.out.drewN _, below_drewN hBs.out _⟩
              · have hpv : (ltN dk[a]! dk[i]!) = true := by rw [hx, hv, hLB] <;> rfl
                have hS2 := Lib.hid ((scD_go (p := (fun x => ltN dk[a]! x)) hij (by omega) hpv).symm.trans hS.out)
                have HP := Lib.hid hpv
                clear hx hv hLB hpv
                go_wp2_with fail
                go_quiet ((go_at_call 90; (first | (with_reducible exact quiet_on (fun W' => CL.out W')) | (with_reducible exact quiet_at (fun W' => CL.out W')) | exact CL.out _)))
                go_wp2_with fail
                go_roundg (i - 1)
                case measure => omega
                case rel => exact ⟨i - 1, by (first | rfl | (simp only [Value.int.injEq, true_and]; omega)), by omega, by omega, by omega, hS2, hOs.out.drewN _, below_drewN hBs.out _⟩
            · have t1 : ¬ ((i2 : Int) ≤ (i : Int)) := by omega
              have t2 : decide ((i2 : Int) ≤ (i : Int)) = false := by simp; omega
              have hSe := Lib.hid (hS.out.symm.trans (scD_end (p := (fun x => ltN dk[a]! x)) (.inl hij)))
              go_wp2_with fail
              go_quiet (fail)
              go_wp2_with fail
              go_meet
              exact ⟨i, rfl, by omega, by omega, hSe, fun h => absurd h hij, hOs.out.drewN _, below_drewN hBs.out _⟩
        case rest =>
          obtain ⟨j2, rfl, hj2a, hj2b, hSj2, hPj2, hO3, hB3⟩ := hcut
          try clear hO2 hB2
          by_cases hgt : j2 < i2
          · have hgz : (j2 : Int) < (i2 : Int) := by omega
            have hR : Hid (Sort.partEqLoop ltN a (a + 1) L d1 = (i2, dk)) := hE.out.symm.trans (pe_end hSi2.out hSj2.out hgt)
            go_wp2
            go_ret
            rw [HD1.out, hR.out]
            exact ⟨rfl, hO3.out, hB3.out⟩
          · have hgz : ¬ ((j2 : Int) < (i2 : Int)) := by omega
            have hne : i2 ≠ j2 := by
              rintro rfl
              have h1 := hPi2.out (by omega)
              have h2 := hPj2.out (by omega)
              rw [h2] at h1
              cases h1
            have hlt : i2 < j2 := by omega
            have hE2 : Hid (Sort.partEqLoop ltN a (i2 + 1) (j2 - 1) (Sort.swp dk i2 j2) = Sort.partEqLoop ltN a (a + 1) L d1) := (pe_go hSi2.out hSj2.out hlt hi2a hj2b).symm.trans hE.out
            go_upto_region 8 with fail
            go_cut [] (fun wc => Hid (Own wc base 29 g n cap (eU (Sort.swp dk i2 j2))) ∧ Hid (Below base w wc))
            case first =>
              obtain ⟨x, hx⟩ : ∃ x, dk[i2]! = x := ⟨_, rfl⟩
              have c1 := (hO3.out.cell (show i2 < n by omega)).trans (congrArg some (eU_of hx))
              have f1 := hO3.out.frozen i2
              have q1 : (0 : Int) ≤ (i2 : Int) := by omega
              have q2 : (i2 : Int) < (n : Int) := by omega
              have hpq : i2 ≠ j2 := by omega
              obtain ⟨y, hy⟩ : ∃ y, dk[j2]! = y := ⟨_, rfl⟩
              have c2 := (hO3.out.cell (show j2 < n by omega)).trans (congrArg some (eU_of hy))
              have f2 := hO3.out.frozen j2
              have q3 : (0 : Int) ≤ (j2 : Int) := by omega
              have q4 : (j2 : Int) < (n : Int) := by omega
              have HO2 := Lib.hid (own_swap hO3.out (show dk.size = n by assumption) (show i2 < n by omega) (show j2 < n by omega) hx hy)
              have HB2 := Lib.hid (below_swap (i := i2) (j := j2) (u := .int .u16 (y : Int)) (v := .int .u16 (x : Int)) hO3.out hB3.out HB.out)
              clear hx hy
              go_wp2_with fail
              go_region
              all_goals
                go_wp2_with fail
                go_meet
                exact ⟨own_drew HO2.out, below_drewN HB2.out 1⟩
            case rest =>
              obtain ⟨hO4, hB4⟩ := hcut
              try clear hO3 hB3
              have ej : (j2 : Int) - 1 = ((j2 - 1 : Nat) : Int) := by omega
              go_wp2_with fail
              go_roundg (j2 - 1 + 1 - (i2 + 1))
              case measure => omega
              case rel => exact ⟨i2 + 1, j2 - 1, Sort.swp dk i2 j2, by go_num, by (first | rfl | (simp only [Value.int.injEq, true_and]; omega)), by omega, by omega, by omega, by rw [sz_swp]; exact hdk, Nat.le_refl _, hO4, hE2, hB4⟩
end Go.Proofs.Ytmeffbooabionaa
