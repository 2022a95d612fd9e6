/- slices.partitionOrdered at uint16. (Printed by wip/tools/gen_sortu.py.) -/
import Derived.Test.YtmeffbooabionaaSoE
set_option linter.unusedVariables false
set_option linter.unusedSimpArgs false
namespace Go.Proofs.Ytmeffbooabionaa
open Go.RowKit

section
variable {d d1 : Array Nat} {a b pv L i j : Nat}
theorem pn_end (hL : b - 1 = L) (hd : Sort.swp d a pv = d1) (h1 : Sort.scanUp (fun x => ltN x d1[a]!) d1 L (a + 1) = i) (h2 : Sort.scanDown (fun x => !ltN x d1[a]!) d1 i L = j) (h : j < i) : Sort.partition ltN d a b pv = (j, true, Sort.swp d1 j a) := by
  unfold Sort.partition
  simp only [hL, hd, h1, h2]
  rw [if_pos h]
theorem pn_go (hL : b - 1 = L) (hd : Sort.swp d a pv = d1) (h1 : Sort.scanUp (fun x => ltN x d1[a]!) d1 L (a + 1) = i) (h2 : Sort.scanDown (fun x => !ltN x d1[a]!) d1 i L = j) (h : ¬ j < i) {r : Nat × Array Nat} (hr : Sort.partLoop ltN a (i + 1) (j - 1) (Sort.swp d1 i j) = r) : Sort.partition ltN d a b pv = (r.1, false, Sort.swp r.2 r.1 a) := by
  unfold Sort.partition
  simp only [hL, hd, h1, h2]
  rw [if_neg h, hr]
end
set_option maxRecDepth 100000 in
set_option maxHeartbeats 8000000 in
theorem so_part (n : Nat) (d : Array Nat) (a b pv base g cap : Nat) (w : World) (hn : n ≤ 1000000) (hd : d.size = n) (hap : a ≤ pv) (hpb : pv < b) (hbn : b ≤ n) (hO : Own w base 29 g n cap (eU d)) (hb : base ≤ w.heap.size) :
    Calls Try.prog 92 #[.slice (some ⟨g, 0, none⟩) n cap, .int .i64 a, .int .i64 b, .int .i64 pv] w (SoPost base n g cap w (.tuple #[.int .i64 ((Sort.partition ltN d a b pv).1 : Nat), .bool (Sort.partition ltN d a b pv).2.1]) (Sort.partition ltN d a b pv).2.2) := by
  have HB : Hid (base ≤ w.heap.size) := hb
  have hc := hO.caps
  have HO : Hid (Own w base 29 g n cap (eU d)) := hO
  have hc1 : (n : Int) ≤ (cap : Int) := by omega
  have hc2 := hc.1
  have hc3 := hc.2
  clear hO hb hc
  obtain ⟨L, hL⟩ : ∃ L, b - 1 = L := ⟨_, rfl⟩
  have eL : (b : Int) - 1 = (L : Int) := by omega
  have hLn : L < n := by omega
  have haL : a ≤ L := by omega
  have HL := Lib.hid hL
  have HB0 := Lib.hid (Below.refl base w)
  clear hL
  go_enter Try.func92, Try.ntmps92
  go_upto_region 1 with fail
  go_cut [] (fun wc => Hid (Own wc base 29 g n cap (eU (Sort.swp d a pv))) ∧ Hid (Below base w wc))
  case first =>
    obtain ⟨x, hx⟩ : ∃ x, d[a]! = x := ⟨_, rfl⟩
    have c1 := (HO.out.cell (show a < n by omega)).trans (congrArg some (eU_of hx))
    have f1 := HO.out.frozen a
    have q1 : (0 : Int) ≤ (a : Int) := by omega
    have q2 : (a : Int) < (n : Int) := by omega
    by_cases hpq : a = pv
    · obtain rfl : a = pv := hpq
      have HO2 := Lib.hid (own_swap HO.out (show d.size = n by assumption) (show a < n by omega) (show a < n by omega) hx hx)
      have HB2 := Lib.hid (below_swap (i := a) (j := a) (u := .int .u16 (x : Int)) (v := .int .u16 (x : Int)) HO.out HB0.out HB.out)
      clear hx
      go_wp2_with fail
      go_region
      all_goals
        go_wp2_with fail
        go_meet
        exact ⟨own_drew HO2.out, below_drewN HB2.out 1⟩
    · have hpqz : (a : Int) ≠ (pv : Int) := by omega
      obtain ⟨y, hy⟩ : ∃ y, d[pv]! = y := ⟨_, rfl⟩
      have c2 := (HO.out.cell (show pv < n by omega)).trans (congrArg some (eU_of hy))
      have f2 := HO.out.frozen pv
      have q3 : (0 : Int) ≤ (pv : Int) := by omega
      have q4 : (pv : Int) < (n : Int) := by omega
      have HO2 := Lib.hid (own_swap HO.out (show d.size = n by assumption) (show a < n by omega) (show pv < n by omega) hx hy)
      have HB2 := Lib.hid (below_swap (i := a) (j := pv) (u := .int .u16 (y : Int)) (v := .int .u16 (x : Int)) HO.out HB0.out HB.out)
      clear hx hy
      go_wp2_with fail
      go_region
      all_goals
        go_wp2_with fail
        go_meet
        exact ⟨own_drew HO2.out, below_drewN HB2.out 1⟩
  case rest =>
    obtain ⟨hO1, hB1⟩ := hcut
    try clear HO HB0
    obtain ⟨d1, hd1⟩ : ∃ d1, Sort.swp d a pv = d1 := ⟨_, rfl⟩
    have hs1 : d1.size = n := by rw [← hd1, sz_swp]; exact hd
    rw [hd1] at hO1
    have HD1 := Lib.hid hd1
    clear hd1
    go_upto_block 0 with fail
    go_cut [10] (fun s wc => ∃ i : Nat, s = .int .i64 i ∧ (a + 1) ≤ i ∧ i ≤ L + 1 ∧ Hid (Sort.scanUp (fun x => ltN x d1[a]!) d1 L (a + 1) = i) ∧ Hid (i ≤ L → (ltN d1[i]! d1[a]!) = false) ∧ Hid (Own wc base 29 g n cap (eU d1)) ∧ Hid (Below base w wc))
    case first =>
      go_wp2_with fail
      go_loopg [10] (L + 1 - ((a + 1))) (fun k s wc => ∃ i : Nat, s = .int .i64 i ∧ (a + 1) ≤ i ∧ i ≤ L + 1 ∧ k = L + 1 - (i) ∧ Hid (Sort.scanUp (fun x => ltN x d1[a]!) d1 L i = Sort.scanUp (fun x => ltN x d1[a]!) d1 L (a + 1)) ∧ Hid (Own wc base 29 g n cap (eU d1)) ∧ Hid (Below base w wc))
      case atStart => exact ⟨(a + 1), rfl, by omega, by omega, rfl, rfl, hO1, hB1⟩
      case round =>
        obtain ⟨i, rfl, hi0, hi1, hgk, hS, hOs, hBs⟩ := hrel
        try clear hO1 hB1
        by_cases hij : i ≤ L
        · obtain ⟨x, hx⟩ : ∃ x, d1[i]! = x := ⟨_, rfl⟩
          obtain ⟨v, hv⟩ : ∃ v, d1[a]! = v := ⟨_, rfl⟩
          have c1 := (hOs.out.cell (show i < n by omega)).trans (congrArg some (eU_of hx))
          have c2 := (hOs.out.cell (show a < n by omega)).trans (congrArg some (eU_of hv))
          have q1 : (0 : Int) ≤ (i : Int) := by omega
          have q2 : (i : Int) < (n : Int) := by omega
          have q3 : (0 : Int) ≤ (a : Int) := by omega
          have q4 : (a : Int) < (n : Int) := by omega
          have t1 : (i : Int) ≤ (L : Int) := by omega
          have t2 : decide ((i : Int) ≤ (L : Int)) = true := by simp; omega
          have CL := Lib.hid (fun W => cmp_Less_u16 x v W)
          obtain ⟨B, hLB⟩ : ∃ B, ltN x v = B := ⟨_, rfl⟩
          rw [hLB] at CL
          cases B
          · have hpv : (ltN d1[i]! d1[a]!) = false := by rw [hx, hv, hLB] <;> rfl
            have hSe := Lib.hid (hS.out.symm.trans (scU_end (p := (fun x => ltN x d1[a]!)) (.inr hpv)))
            have HP := Lib.hid hpv
            clear hx hv hLB hpv
            go_wp2_with fail
            go_quiet ((go_at_call 90; (first | (with_reducible exact quiet_on (fun W' => CL.out W')) | (with_reducible exact quiet_at (fun W' => CL.out W')) | exact CL.out _)))
            go_wp2_with fail
            go_meet
            exact ⟨i, rfl, by omega, by omega, hSe, fun _ => HP.out, hOs.out.drewN _, below_drewN hBs.out _⟩
          · have hpv : (ltN d1[i]! d1[a]!) = true := by rw [hx, hv, hLB] <;> rfl
            have hS2 := Lib.hid ((scU_go (p := (fun x => ltN x d1[a]!)) hij hpv).symm.trans hS.out)
            have HP := Lib.hid hpv
            clear hx hv hLB hpv
            go_wp2_with fail
            go_quiet ((go_at_call 90; (first | (with_reducible exact quiet_on (fun W' => CL.out W')) | (with_reducible exact quiet_at (fun W' => CL.out W')) | exact CL.out _)))
            go_wp2_with fail
            go_roundg (L + 1 - (i + 1))
            case measure => omega
            case rel => exact ⟨i + 1, by go_num, by omega, by omega, by omega, hS2, hOs.out.drewN _, below_drewN hBs.out _⟩
        · have t1 : ¬ ((i : Int) ≤ (L : Int)) := by omega
          have t2 : decide ((i : Int) ≤ (L : Int)) = false := by simp; omega
          have hSe := Lib.hid (hS.out.symm.trans (scU_end (p := (fun x => ltN x d1[a]!)) (.inl hij)))
          go_wp2_with fail
          go_quiet (fail)
          go_wp2_with fail
          go_meet
          exact ⟨i, rfl, by omega, by omega, hSe, fun h => absurd h hij, hOs.out.drewN _, below_drewN hBs.out _⟩
    case rest =>
      obtain ⟨i1, rfl, hi1a, hi1b, hSi1, hPi1, hO2, hB2⟩ := hcut
      try clear hO1 hB1
      go_upto_block 2 with fail
      go_cut [11] (fun s wc => ∃ i : Nat, s = .int .i64 i ∧ i1 ≤ i + 1 ∧ i ≤ L ∧ Hid (Sort.scanDown (fun x => !ltN x d1[a]!) d1 i1 L = i) ∧ Hid (i1 ≤ i → (!ltN d1[i]! d1[a]!) = false) ∧ Hid (Own wc base 29 g n cap (eU d1)) ∧ Hid (Below base w wc))
      case first =>
        go_wp2_with fail
        go_loopg [11] (L) (fun k s wc => ∃ i : Nat, s = .int .i64 i ∧ i1 ≤ i + 1 ∧ i ≤ L ∧ k = i ∧ Hid (Sort.scanDown (fun x => !ltN x d1[a]!) d1 i1 i = Sort.scanDown (fun x => !ltN x d1[a]!) d1 i1 L) ∧ Hid (Own wc base 29 g n cap (eU d1)) ∧ Hid (Below base w wc))
        case atStart => exact ⟨L, rfl, by omega, by omega, rfl, rfl, hO2, hB2⟩
        case round =>
          obtain ⟨i, rfl, hi0, hi1, hgk, hS, hOs, hBs⟩ := hrel
          try clear hO2 hB2
          by_cases hij : i1 ≤ i
          · obtain ⟨x, hx⟩ : ∃ x, d1[i]! = x := ⟨_, rfl⟩
            obtain ⟨v, hv⟩ : ∃ v, d1[a]! = v := ⟨_, rfl⟩
            have c1 := (hOs.out.cell (show i < n by omega)).trans (congrArg some (eU_of hx))
            have c2 := (hOs.out.cell (show a < n by omega)).trans (congrArg some (eU_of hv))
            have q1 : (0 : Int) ≤ (i : Int) := by omega
            have q2 : (i : Int) < (n : Int) := by omega
            have q3 : (0 : Int) ≤ (a : Int) := by omega
            have q4 : (a : Int) < (n : Int) := by omega
            have t1 : (i1 : Int) ≤ (i : Int) := by omega
            have t2 : decide ((i1 : Int) ≤ (i : Int)) = true := by simp; omega
            have CL := Lib.hid (fun W => cmp_Less_u16 x v W)
            obtain ⟨B, hLB⟩ : ∃ B, ltN x v = B := ⟨_, rfl⟩
            rw [hLB] at CL
            cases B
            · have hpv : (!ltN d1[i]! d1[a]!) = true := by rw [hx, hv, hLB] <;> rfl
              have hS2 := Lib.hid ((scD_go (p := (fun x => !ltN x d1[a]!)) hij (by omega) hpv).symm.trans hS.out)
              have HP := Lib.hid hpv
              clear hx hv hLB hpv
              go_wp2_with fail
              go_quiet ((go_at_call 90; (first | (with_reducible exact quiet_on (fun W' => CL.out W')) | (with_reducible exact quiet_at (fun W' => CL.out W')) | exact CL.out _)))
              go_wp2_with fail
              go_roundg (i - 1)
              case measure => omega
              case rel => exact ⟨i - 1, by (first | rfl | (simp only [Value.int.injEq, true_and]; omega)), by omega, by omega, by omega, hS2, hOs.out.drewN _, below_drewN hBs.out _⟩
            · have hpv : (!ltN d1[i]! d1[a]!) = false := by rw [hx, hv, hLB] <;> rfl
              have hSe := Lib.hid (hS.out.symm.trans (scD_end (p := (fun x => !ltN x d1[a]!)) (.inr hpv)))
              have HP := Lib.hid hpv
              clear hx hv hLB hpv
              go_wp2_with fail
              go_quiet ((go_at_call 90; (first | (with_reducible exact quiet_on (fun W' => CL.out W')) | (with_reducible exact quiet_at (fun W' => CL.out W')) | exact CL.out _)))
              go_wp2_with fail
              go_meet
              exact ⟨i, rfl, by omega, by omega, hSe, fun _ => HP.out, hOs.out.drewN _, below_drewN hBs.out _⟩
          · have t1 : ¬ ((i1 : Int) ≤ (i : Int)) := by omega
            have t2 : decide ((i1 : Int) ≤ (i : Int)) = false := by simp; omega
            have hSe := Lib.hid (hS.out.symm.trans (scD_end (p := (fun x => !ltN x d1[a]!)) (.inl hij)))
            go_wp2_with fail
            go_quiet (fail)
            go_wp2_with fail
            go_meet
            exact ⟨i, rfl, by omega, by omega, hSe, fun h => absurd h hij, hOs.out.drewN _, below_drewN hBs.out _⟩
      case rest =>
        obtain ⟨j1, rfl, hj1a, hj1b, hSj1, hPj1, hO3, hB3⟩ := hcut
        try clear hO2 hB2
        by_cases hgt : j1 < i1
        · have hgz : (j1 : Int) < (i1 : Int) := by omega
          have hR := Lib.hid (pn_end HL.out HD1.out hSi1.out hSj1.out hgt)
          go_upto_region 8 with fail
          go_cut [] (fun wc => Hid (Own wc base 29 g n cap (eU (Sort.swp d1 j1 a))) ∧ Hid (Below base w wc))
          case first =>
            obtain ⟨x, hx⟩ : ∃ x, d1[j1]! = x := ⟨_, rfl⟩
            have c1 := (hO3.out.cell (show j1 < n by omega)).trans (congrArg some (eU_of hx))
            have f1 := hO3.out.frozen j1
            have q1 : (0 : Int) ≤ (j1 : Int) := by omega
            have q2 : (j1 : Int) < (n : Int) := by omega
            by_cases hpq : j1 = a
            · obtain rfl : j1 = a := hpq
              have HO2 := Lib.hid (own_swap hO3.out (show d1.size = n by assumption) (show j1 < n by omega) (show j1 < n by omega) hx hx)
              have HB2 := Lib.hid (below_swap (i := j1) (j := j1) (u := .int .u16 (x : Int)) (v := .int .u16 (x : Int)) hO3.out hB3.out HB.out)
              clear hx
              go_wp2_with fail
              go_region
              all_goals
                go_wp2_with fail
                go_meet
                exact ⟨own_drew HO2.out, below_drewN HB2.out 1⟩
            · have hpqz : (j1 : Int) ≠ (a : Int) := by omega
              obtain ⟨y, hy⟩ : ∃ y, d1[a]! = y := ⟨_, rfl⟩
              have c2 := (hO3.out.cell (show a < n by omega)).trans (congrArg some (eU_of hy))
              have f2 := hO3.out.frozen a
              have q3 : (0 : Int) ≤ (a : Int) := by omega
              have q4 : (a : Int) < (n : Int) := by omega
              have HO2 := Lib.hid (own_swap hO3.out (show d1.size = n by assumption) (show j1 < n by omega) (show a < n by omega) hx hy)
              have HB2 := Lib.hid (below_swap (i := j1) (j := a) (u := .int .u16 (y : Int)) (v := .int .u16 (x : Int)) hO3.out hB3.out HB.out)
              clear hx hy
              go_wp2_with fail
              go_region
              all_goals
                go_wp2_with fail
                go_meet
                exact ⟨own_drew HO2.out, below_drewN HB2.out 1⟩
          case rest =>
            obtain ⟨hO4, hB4⟩ := hcut
            try clear hO3 hB3
            go_wp2
            (first | go_ret | go_ret2)
            rw [hR.out]
            exact ⟨rfl, hO4.out, hB4.out⟩
        · have hgz : ¬ ((j1 : Int) < (i1 : Int)) := by omega
          have hne : i1 ≠ j1 := by
            rintro rfl
            have h1 := hPi1.out (by omega)
            have h2 := hPj1.out (by omega)
            rw [h1] at h2
            cases h2
          have hlt : i1 < j1 := by omega
          go_upto_region 10 with fail
          go_cut [] (fun wc => Hid (Own wc base 29 g n cap (eU (Sort.swp d1 i1 j1))) ∧ Hid (Below base w wc))
          case first =>
            obtain ⟨x, hx⟩ : ∃ x, d1[i1]! = x := ⟨_, rfl⟩
            have c1 := (hO3.out.cell (show i1 < n by omega)).trans (congrArg some (eU_of hx))
            have f1 := hO3.out.frozen i1
            have q1 : (0 : Int) ≤ (i1 : Int) := by omega
            have q2 : (i1 : Int) < (n : Int) := by omega
            have hpq : i1 ≠ j1 := by omega
            obtain ⟨y, hy⟩ : ∃ y, d1[j1]! = y := ⟨_, rfl⟩
            have c2 := (hO3.out.cell (show j1 < n by omega)).trans (congrArg some (eU_of hy))
            have f2 := hO3.out.frozen j1
            have q3 : (0 : Int) ≤ (j1 : Int) := by omega
            have q4 : (j1 : Int) < (n : Int) := by omega
            have HO2 := Lib.hid (own_swap hO3.out (show d1.size = n by assumption) (show i1 < n by omega) (show j1 < n by omega) hx hy)
            have HB2 := Lib.hid (below_swap (i := i1) (j := j1) (u := .int .u16 (y : Int)) (v := .int .u16 (x : Int)) hO3.out hB3.out HB.out)
            clear hx hy
            go_wp2_with fail
            go_region
            all_goals
              go_wp2_with fail
              go_meet
              exact ⟨own_drew HO2.out, below_drewN HB2.out 1⟩
          case rest =>
            obtain ⟨hO4, hB4⟩ := hcut
            try clear hO3 hB3
            have ej : (j1 : Int) - 1 = ((j1 - 1 : Nat) : Int) := by omega
            have hs2 : (Sort.swp d1 i1 j1).size = n := by rw [sz_swp]; exact hs1
            have HR : Hid (∀ r, Sort.partLoop ltN a (i1 + 1) (j1 - 1) (Sort.swp d1 i1 j1) = r → Sort.partition ltN d a b pv = (r.1, false, Sort.swp r.2 r.1 a)) := fun r hr => pn_go HL.out HD1.out hSi1.out hSj1.out (by omega) hr
            obtain ⟨d2, hd2⟩ : ∃ d2, Sort.swp d1 i1 j1 = d2 := ⟨_, rfl⟩
            rw [hd2] at hO4 HR hs2
            obtain ⟨J1, hJ1⟩ : ∃ J1, j1 - 1 = J1 := ⟨_, rfl⟩
            rw [hJ1] at ej HR
            have hJ1L : J1 < L := by omega
            have hiJ : i1 + 1 ≤ J1 + 1 := by omega
            have hai : a + 1 ≤ i1 := by omega
            have HGT := Lib.hid hgt
            clear hd2 hJ1 hSi1 hSj1 hPi1 hPj1 hgt hgz
            go_wp2_with fail
            go_loopg [10, 11] (L + 1) (fun k s9 s10 wr => ∃ (i j : Nat) (dk : Array Nat), s9 = .int .i64 i ∧ s10 = .int .i64 j ∧ a + 1 ≤ i ∧ i ≤ j + 1 ∧ j ≤ L ∧ dk.size = n ∧ j + 1 - i ≤ k ∧ Hid (Own wr base 29 g n cap (eU dk)) ∧ Hid (Sort.partLoop ltN a i j dk = Sort.partLoop ltN a (i1 + 1) J1 d2) ∧ Hid (Below base w wr))
            case atStart => exact ⟨i1 + 1, J1, d2, by go_num, rfl, by omega, by omega, by omega, hs2, by omega, hO4, rfl, hB4⟩
            case round =>
              clear hO4 hB4
              obtain ⟨i0, j0, dk, rfl, rfl, ha0, hij0, hj0, hdk, hk, hO, hE, hB⟩ := hrel
              go_upto_block 6 with fail
              go_cut [10] (fun s wc => ∃ i : Nat, s = .int .i64 i ∧ i0 ≤ i ∧ i ≤ j0 + 1 ∧ Hid (Sort.scanUp (fun x => ltN x dk[a]!) dk j0 i0 = i) ∧ Hid (i ≤ j0 → (ltN dk[i]! dk[a]!) = false) ∧ Hid (Own wc base 29 g n cap (eU dk)) ∧ Hid (Below base w wc))
              case first =>
                go_wp2_with fail
                go_loopg [10] (j0 + 1 - (i0)) (fun k s wc => ∃ i : Nat, s = .int .i64 i ∧ i0 ≤ i ∧ i ≤ j0 + 1 ∧ k = j0 + 1 - (i) ∧ Hid (Sort.scanUp (fun x => ltN x dk[a]!) dk j0 i = Sort.scanUp (fun x => ltN x dk[a]!) dk j0 i0) ∧ Hid (Own wc base 29 g n cap (eU dk)) ∧ Hid (Below base w wc))
                case atStart => exact ⟨i0, rfl, by omega, by omega, rfl, rfl, hO, hB⟩
                case round =>
                  obtain ⟨i, rfl, hi0, hi1, hgk, hS, hOs, hBs⟩ := hrel
                  try clear hO hB
                  by_cases hij : i ≤ j0
                  · obtain ⟨x, hx⟩ : ∃ x, dk[i]! = x := ⟨_, rfl⟩
                    obtain ⟨v, hv⟩ : ∃ v, dk[a]! = v := ⟨_, rfl⟩
                    have c1 := (hOs.out.cell (show i < n by omega)).trans (congrArg some (eU_of hx))
                    have c2 := (hOs.out.cell (show a < n by omega)).trans (congrArg some (eU_of hv))
                    have q1 : (0 : Int) ≤ (i : Int) := by omega
                    have q2 : (i : Int) < (n : Int) := by omega
                    have q3 : (0 : Int) ≤ (a : Int) := by omega
                    have q4 : (a : Int) < (n : Int) := by omega
                    have t1 : (i : Int) ≤ (j0 : Int) := by omega
                    have t2 : decide ((i : Int) ≤ (j0 : Int)) = true := by simp; omega
                    have CL := Lib.hid (fun W => cmp_Less_u16 x v W)
                    obtain ⟨B, hLB⟩ : ∃ B, ltN x v = B := ⟨_, rfl⟩
                    rw [hLB] at CL
                    cases B
                    · have hpv : (ltN dk[i]! dk[a]!) = false := by rw [hx, hv, hLB] <;> rfl
                      have hSe := Lib.hid (hS.out.symm.trans (scU_end (p := (fun x => ltN x dk[a]!)) (.inr hpv)))
                      have HP := Lib.hid hpv
                      clear hx hv hLB hpv
                      go_wp2_with fail
                      go_quiet ((go_at_call 90; (first | (with_reducible exact quiet_on (fun W' => CL.out W')) | (with_reducible exact quiet_at (fun W' => CL.out W')) | exact CL.out _)))
                      go_wp2_with fail
                      go_meet
                      exact ⟨i, rfl, by omega, by omega, hSe, fun _ => HP.out, hOs.out.drewN _, below_drewN hBs.out _⟩
                    · have hpv : (ltN dk[i]! dk[a]!) = true := by rw [hx, hv, hLB] <;> rfl
                      have hS2 := Lib.hid ((scU_go (p := (fun x => ltN x dk[a]!)) hij hpv).symm.trans hS.out)
                      have HP := Lib.hid hpv
                      clear hx hv hLB hpv
                      go_wp2_with fail
                      go_quiet ((go_at_call 90; (first | (with_reducible exact quiet_on (fun W' => CL.out W')) | (with_reducible exact quiet_at (fun W' => CL.out W')) | exact CL.out _)))
                      go_wp2_with fail
                      go_roundg (j0 + 1 - (i + 1))
                      case measure => omega
                      case rel => exact ⟨i + 1, by go_num, by omega, by omega, by omega, hS2, hOs.out.drewN _, below_drewN hBs.out _⟩
                  · have t1 : ¬ ((i : Int) ≤ (j0 : Int)) := by omega
                    have t2 : decide ((i : Int) ≤ (j0 : Int)) = false := by simp; omega
                    have hSe := Lib.hid (hS.out.symm.trans (scU_end (p := (fun x => ltN x dk[a]!)) (.inl hij)))
                    go_wp2_with fail
                    go_quiet (fail)
                    go_wp2_with fail
                    go_meet
                    exact ⟨i, rfl, by omega, by omega, hSe, fun h => absurd h hij, hOs.out.drewN _, below_drewN hBs.out _⟩
              case rest =>
                obtain ⟨i2, rfl, hi2a, hi2b, hSi2, hPi2, hO2, hB2⟩ := hcut
                try clear hO hB
                go_upto_block 8 with fail
                go_cut [11] (fun s wc => ∃ i : Nat, s = .int .i64 i ∧ i2 ≤ i + 1 ∧ i ≤ j0 ∧ Hid (Sort.scanDown (fun x => !ltN x dk[a]!) dk i2 j0 = i) ∧ Hid (i2 ≤ i → (!ltN dk[i]! dk[a]!) = false) ∧ Hid (Own wc base 29 g n cap (eU dk)) ∧ Hid (Below base w wc))
                case first =>
                  go_wp2_with fail
                  go_loopg [11] (j0) (fun k s wc => ∃ i : Nat, s = .int .i64 i ∧ i2 ≤ i + 1 ∧ i ≤ j0 ∧ k = i ∧ Hid (Sort.scanDown (fun x => !ltN x dk[a]!) dk i2 i = Sort.scanDown (fun x => !ltN x dk[a]!) dk i2 j0) ∧ Hid (Own wc base 29 g n cap (eU dk)) ∧ Hid (Below base w wc))
                  case atStart => exact ⟨j0, rfl, by omega, by omega, rfl, rfl, hO2, hB2⟩
                  case round =>
                    obtain ⟨i, rfl, hi0, hi1, hgk, hS, hOs, hBs⟩ := hrel
                    try clear hO2 hB2
                    by_cases hij : i2 ≤ i
                    · obtain ⟨x, hx⟩ : ∃ x, dk[i]! = x := ⟨_, rfl⟩
                      obtain ⟨v, hv⟩ : ∃ v, dk[a]! = v := ⟨_, rfl⟩
                      have c1 := (hOs.out.cell (show i < n by omega)).trans (congrArg some (eU_of hx))
                      have c2 := (hOs.out.cell (show a < n by omega)).trans (congrArg some (eU_of hv))
                      have q1 : (0 : Int) ≤ (i : Int) := by omega
                      have q2 : (i : Int) < (n : Int) := by omega
                      have q3 : (0 : Int) ≤ (a : Int) := by omega
                      have q4 : (a : Int) < (n : Int) := by omega
                      have t1 : (i2 : Int) ≤ (i : Int) := by omega
                      have t2 : decide ((i2 : Int) ≤ (i : Int)) = true := by simp; omega
                      have CL := Lib.hid (fun W => cmp_Less_u16 x v W)
                      obtain ⟨B, hLB⟩ : ∃ B, ltN x v = B := ⟨_, rfl⟩
                      rw [hLB] at CL
                      cases B
                      · have hpv : (!ltN dk[i]! dk[a]!) = true := by rw [hx, hv, hLB] <;> rfl
                        have hS2 := Lib.hid ((scD_go (p := (fun x => !ltN x dk[a]!)) hij (by omega) hpv).symm.trans hS.out)
                        have HP := Lib.hid hpv
                        clear hx hv hLB hpv
                        go_wp2_with fail
                        go_quiet ((go_at_call 90; (first | (with_reducible exact quiet_on (fun W' => CL.out W')) | (with_reducible exact quiet_at (fun W' => CL.out W')) | exact CL.out _)))
                        go_wp2_with fail
                        go_roundg (i - 1)
                        case measure => omega
                        case rel => exact ⟨i - 1, by (first | rfl | (simp only [Value.int.injEq, true_and]; omega)), by omega, by omega, by omega, hS2, hOs.out.drewN _, below_drewN hBs.out _⟩
                      · have hpv : (!ltN dk[i]! dk[a]!) = false := by rw [hx, hv, hLB] <;> rfl
                        have hSe := Lib.hid (hS.out.symm.trans (scD_end (p := (fun x => !ltN x dk[a]!)) (.inr hpv)))
                        have HP := Lib.hid hpv
                        clear hx hv hLB hpv
                        go_wp2_with fail
                        go_quiet ((go_at_call 90; (first | (with_reducible exact quiet_on (fun W' => CL.out W')) | (with_reducible exact quiet_at (fun W' => CL.out W')) | exact CL.out _)))
                        go_wp2_with fail
                        go_meet
                        exact ⟨i, rfl, by omega, by omega, hSe, fun _ => HP.out, hOs.out.drewN _, below_drewN hBs.out _⟩
                    · have t1 : ¬ ((i2 : Int) ≤ (i : Int)) := by omega
                      have t2 : decide ((i2 : Int) ≤ (i : Int)) = false := by simp; omega
                      have hSe := Lib.hid (hS.out.symm.trans (scD_end (p := (fun x => !ltN x dk[a]!)) (.inl hij)))
                      go_wp2_with fail
                      go_quiet (fail)
                      go_wp2_with fail
                      go_meet
                      exact ⟨i, rfl, by omega, by omega, hSe, fun h => absurd h hij, hOs.out.drewN _, below_drewN hBs.out _⟩
                case rest =>
                  obtain ⟨j2, rfl, hj2a, hj2b, hSj2, hPj2, hO3, hB3⟩ := hcut
                  try clear hO2 hB2
                  by_cases hgt : j2 < i2
                  · have hgz : (j2 : Int) < (i2 : Int) := by omega
                    have hR := Lib.hid (HR.out _ (hE.out.symm.trans (pt_end hSi2.out hSj2.out hgt)))
                    go_upto_region 21 with fail
                    go_cut [] (fun wc => Hid (Own wc base 29 g n cap (eU (Sort.swp dk j2 a))) ∧ Hid (Below base w wc))
                    case first =>
                      obtain ⟨x, hx⟩ : ∃ x, dk[j2]! = x := ⟨_, rfl⟩
                      have c1 := (hO3.out.cell (show j2 < n by omega)).trans (congrArg some (eU_of hx))
                      have f1 := hO3.out.frozen j2
                      have q1 : (0 : Int) ≤ (j2 : Int) := by omega
                      have q2 : (j2 : Int) < (n : Int) := by omega
                      by_cases hpq : j2 = a
                      · obtain rfl : j2 = a := hpq
                        have HO2 := Lib.hid (own_swap hO3.out (show dk.size = n by assumption) (show j2 < n by omega) (show j2 < n by omega) hx hx)
                        have HB2 := Lib.hid (below_swap (i := j2) (j := j2) (u := .int .u16 (x : Int)) (v := .int .u16 (x : Int)) hO3.out hB3.out HB.out)
                        clear hx
                        go_wp2_with fail
                        go_region
                        all_goals
                          go_wp2_with fail
                          go_meet
                          exact ⟨own_drew HO2.out, below_drewN HB2.out 1⟩
                      · have hpqz : (j2 : Int) ≠ (a : Int) := by omega
                        obtain ⟨y, hy⟩ : ∃ y, dk[a]! = y := ⟨_, rfl⟩
                        have c2 := (hO3.out.cell (show a < n by omega)).trans (congrArg some (eU_of hy))
                        have f2 := hO3.out.frozen a
                        have q3 : (0 : Int) ≤ (a : Int) := by omega
                        have q4 : (a : Int) < (n : Int) := by omega
                        have HO2 := Lib.hid (own_swap hO3.out (show dk.size = n by assumption) (show j2 < n by omega) (show a < n by omega) hx hy)
                        have HB2 := Lib.hid (below_swap (i := j2) (j := a) (u := .int .u16 (y : Int)) (v := .int .u16 (x : Int)) hO3.out hB3.out HB.out)
                        clear hx hy
                        go_wp2_with fail
                        go_region
                        all_goals
                          go_wp2_with fail
                          go_meet
                          exact ⟨own_drew HO2.out, below_drewN HB2.out 1⟩
                    case rest =>
                      obtain ⟨hO4, hB4⟩ := hcut
                      try clear hO3 hB3
                      go_wp2
                      (first | go_ret | go_ret2)
                      rw [hR.out]
                      exact ⟨rfl, hO4.out, hB4.out⟩
                  · have hgz : ¬ ((j2 : Int) < (i2 : Int)) := by omega
                    have hne : i2 ≠ j2 := by
                      rintro rfl
                      have h1 := hPi2.out (by omega)
                      have h2 := hPj2.out (by omega)
                      rw [h1] at h2
                      cases h2
                    have hlt : i2 < j2 := by omega
                    have hE2 : Hid (Sort.partLoop ltN a (i2 + 1) (j2 - 1) (Sort.swp dk i2 j2) = Sort.partLoop ltN a (i1 + 1) J1 d2) := (pt_go hSi2.out hSj2.out hlt hi2a hj2b).symm.trans hE.out
                    go_upto_region 18 with fail
                    go_cut [] (fun wc => Hid (Own wc base 29 g n cap (eU (Sort.swp dk i2 j2))) ∧ Hid (Below base w wc))
                    case first =>
                      obtain ⟨x, hx⟩ : ∃ x, dk[i2]! = x := ⟨_, rfl⟩
                      have c1 := (hO3.out.cell (show i2 < n by omega)).trans (congrArg some (eU_of hx))
                      have f1 := hO3.out.frozen i2
                      have q1 : (0 : Int) ≤ (i2 : Int) := by omega
                      have q2 : (i2 : Int) < (n : Int) := by omega
                      have hpq : i2 ≠ j2 := by omega
                      obtain ⟨y, hy⟩ : ∃ y, dk[j2]! = y := ⟨_, rfl⟩
                      have c2 := (hO3.out.cell (show j2 < n by omega)).trans (congrArg some (eU_of hy))
                      have f2 := hO3.out.frozen j2
                      have q3 : (0 : Int) ≤ (j2 : Int) := by omega
                      have q4 : (j2 : Int) < (n : Int) := by omega
                      have HO2 := Lib.hid (own_swap hO3.out (show dk.size = n by assumption) (show i2 < n by omega) (show j2 < n by omega) hx hy)
                      have HB2 := Lib.hid (below_swap (i := i2) (j := j2) (u := .int .u16 (y : Int)) (v := .int .u16 (x : Int)) hO3.out hB3.out HB.out)
                      clear hx hy
                      go_wp2_with fail
                      go_region
                      all_goals
                        go_wp2_with fail
                        go_meet
                        exact ⟨own_drew HO2.out, below_drewN HB2.out 1⟩
                    case rest =>
                      obtain ⟨hO4, hB4⟩ := hcut
                      try clear hO3 hB3
                      have ej : (j2 : Int) - 1 = ((j2 - 1 : Nat) : Int) := by omega
                      go_wp2_with fail
                      go_roundg (j2 - 1 + 1 - (i2 + 1))
                      case measure => omega
                      case rel => exact ⟨i2 + 1, j2 - 1, Sort.swp dk i2 j2, by go_num, by (first | rfl | (simp only [Value.int.injEq, true_and]; omega)), by omega, by omega, by omega, by rw [sz_swp]; exact hdk, Nat.le_refl _, hO4, hE2, hB4⟩
end Go.Proofs.Ytmeffbooabionaa
