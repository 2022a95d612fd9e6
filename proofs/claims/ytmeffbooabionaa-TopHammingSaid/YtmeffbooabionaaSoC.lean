/- slices.siftDownOrdered at uint16. (Printed by wip/tools/gen_sortu.py.) -/
import Derived.Test.YtmeffbooabionaaSoB
set_option linter.unusedVariables false
set_option linter.unusedSimpArgs false
namespace Go.Proofs.Ytmeffbooabionaa
open Go.RowKit

section
variable {hi F root c : Nat} {d : Array Nat}
theorem sd_end (h : hi ≤ 2 * root + 1) : Sort.siftDown ltN hi F root d = d := by rw [Sort.siftDown, dif_pos h]
def SdC (hi F root : Nat) (d : Array Nat) (c : Nat) : Prop :=
  (2 * root + 2 < hi ∧ ltN d[F + (2 * root + 1)]! d[F + (2 * root + 2)]! = true ∧ c = 2 * root + 2) ∨ (2 * root + 1 < hi ∧ (2 * root + 2 < hi → ltN d[F + (2 * root + 1)]! d[F + (2 * root + 2)]! = false) ∧ c = 2 * root + 1)
theorem sd_stop (hc : SdC hi F root d c) (h : ltN d[F + root]! d[F + c]! = false) : Sort.siftDown ltN hi F root d = d := by
  rw [Sort.siftDown, show F + (2 * root + 1) + 1 = F + (2 * root + 2) by omega]
  rcases hc with ⟨h1, h2, rfl⟩ | ⟨h1, h2, rfl⟩
  · rw [dif_neg (by omega), h2, h]
    simp [show 2 * root + 1 + 1 < hi by omega]
  · rw [dif_neg (by omega), h]
    by_cases h3 : 2 * root + 2 < hi
    · simp [h2 h3]
    · simp [show ¬ 2 * root + 1 + 1 < hi by omega]
theorem sd_go (hc : SdC hi F root d c) (h : ltN d[F + root]! d[F + c]! = true) : Sort.siftDown ltN hi F root d = Sort.siftDown ltN hi F c (Sort.swp d (F + root) (F + c)) := by
  rw [Sort.siftDown, show F + (2 * root + 1) + 1 = F + (2 * root + 2) by omega]
  rcases hc with ⟨h1, h2, rfl⟩ | ⟨h1, h2, rfl⟩
  · rw [dif_neg (by omega), h2, h]
    simp [show 2 * root + 1 + 1 < hi by omega]
  · rw [dif_neg (by omega), h]
    by_cases h3 : 2 * root + 2 < hi
    · simp [h2 h3]
    · simp [show ¬ 2 * root + 1 + 1 < hi by omega]
theorem sz_sift : ∀ (m root : Nat) (d : Array Nat), hi - root ≤ m → (Sort.siftDown ltN hi F root d).size = d.size := by
  intro m
  induction m with
  | zero => intro root d h; rw [sd_end (by omega)]
  | succ m ih =>
    intro root d h
    by_cases h0 : hi ≤ 2 * root + 1
    · rw [sd_end h0]
    · obtain ⟨c, hc⟩ : ∃ c, SdC hi F root d c := by
        by_cases h1 : 2 * root + 2 < hi
        · cases h2 : ltN d[F + (2 * root + 1)]! d[F + (2 * root + 2)]!
          · exact ⟨_, .inr ⟨by omega, fun _ => h2, rfl⟩⟩
          · exact ⟨_, .inl ⟨h1, h2, rfl⟩⟩
        · exact ⟨_, .inr ⟨by omega, fun h => absurd h h1, rfl⟩⟩
      have hgt : root < c := by rcases hc with ⟨_, _, rfl⟩ | ⟨_, _, rfl⟩ <;> omega
      cases h2 : ltN d[F + root]! d[F + c]!
      · rw [sd_stop hc h2]
      · rw [sd_go hc h2, ih _ _ (by omega), sz_swp]
end
set_option maxRecDepth 100000 in
set_option maxHeartbeats 8000000 in
theorem so_sift (n : Nat) (d : Array Nat) (lo hi F base g cap : Nat) (w : World) (hn : n ≤ 1000000) (hd : d.size = n) (hlo : lo ≤ hi) (hF : F + hi ≤ n) (hO : Own w base 29 g n cap (eU d)) (hb : base ≤ w.heap.size) :
    Calls Try.prog 102 #[.slice (some ⟨g, 0, none⟩) n cap, .int .i64 lo, .int .i64 hi, .int .i64 F] w (SoPost base n g cap w (.tuple #[]) (Sort.siftDown ltN hi F lo d)) := by
  have HB : Hid (base ≤ w.heap.size) := hb
  have hc := hO.caps
  have HO : Hid (Own w base 29 g n cap (eU d)) := hO
  have hc1 : (n : Int) ≤ (cap : Int) := by omega
  have hc2 := hc.1
  have hc3 := hc.2
  clear hO hb hc
  go_enter Try.func102, Try.ntmps102
  go_wp2_with fail
  go_loopw [8] (fun vi wr => ∃ (r : Nat) (dk : Array Nat), vi = .int .i64 r ∧ r ≤ hi ∧ dk.size = n ∧ Hid (Own wr base 29 g n cap (eU dk)) ∧ Hid (Sort.siftDown ltN hi F r dk = Sort.siftDown ltN hi F lo d) ∧ Hid (Below base w wr)) (fun vi _ => hi - (intOf vi).toNat)
  case atStart => exact ⟨lo, d, rfl, hlo, hd, HO, rfl, Below.refl _ _⟩
  case round =>
    obtain ⟨r, dk, rfl, hr, hdk, hO, hE, hB⟩ := hrel
    obtain ⟨C, hC⟩ : ∃ C, 2 * r + 1 = C := ⟨_, rfl⟩
    have eC : 2 * (r : Int) + 1 = (C : Int) := by omega
    have HC := Lib.hid hC
    by_cases h0 : hi ≤ C
    · have h0z : (hi : Int) ≤ (C : Int) := by omega
      clear hC
      go_wp2
      go_end0
      refine ⟨rfl, ?_, hB.out⟩
      rw [← hE.out, sd_end (by rw [HC.out]; exact h0)]
      exact hO.out
    · have h0z : ¬ ((hi : Int) ≤ (C : Int)) := by omega
      obtain ⟨D, hD⟩ : ∃ D, C + 1 = D := ⟨_, rfl⟩
      obtain ⟨P, hP⟩ : ∃ P, F + C = P := ⟨_, rfl⟩
      obtain ⟨Q, hQ⟩ : ∃ Q, P + 1 = Q := ⟨_, rfl⟩
      obtain ⟨R, hR⟩ : ∃ R, F + r = R := ⟨_, rfl⟩
      have eD : (C : Int) + 1 = (D : Int) := by omega
      have eP : (F : Int) + (C : Int) = (P : Int) := by omega
      have eQ : (P : Int) + 1 = (Q : Int) := by omega
      have eR : (F : Int) + (r : Int) = (R : Int) := by omega
      have eFD : (F : Int) + (D : Int) = (Q : Int) := by omega
      have wD : IntKind.i64.wrap ((C : Int) + 1) = (D : Int) := by rw [eD]; exact IntWalk.i64_in _ (by omega)
      have wP : IntKind.i64.wrap ((F : Int) + (C : Int)) = (P : Int) := by rw [eP]; exact IntWalk.i64_in _ (by omega)
      have wQ : IntKind.i64.wrap ((P : Int) + 1) = (Q : Int) := by rw [eQ]; exact IntWalk.i64_in _ (by omega)
      have wR : IntKind.i64.wrap ((F : Int) + (r : Int)) = (R : Int) := by rw [eR]; exact IntWalk.i64_in _ (by omega)
      have wFD : IntKind.i64.wrap ((F : Int) + (D : Int)) = (Q : Int) := by rw [eFD]; exact IntWalk.i64_in _ (by omega)
      have HD := Lib.hid hD
      have HP := Lib.hid hP
      have HQ := Lib.hid hQ
      have HR := Lib.hid hR
      obtain ⟨x, hx⟩ : ∃ x, dk[P]! = x := ⟨_, rfl⟩
      obtain ⟨y, hy⟩ : ∃ y, dk[Q]! = y := ⟨_, rfl⟩
      obtain ⟨z, hz⟩ : ∃ z, dk[R]! = z := ⟨_, rfl⟩
      have HX := Lib.hid hx
      have HY := Lib.hid hy
      have HZ := Lib.hid hz
      have hCi : C < hi := by omega
      have nR0 : (0 : Int) ≤ (R : Int) := by omega
      have nR1 : (R : Int) < (n : Int) := by omega
      have nP0 : (0 : Int) ≤ (P : Int) := by omega
      have nP1 : (P : Int) < (n : Int) := by omega
      by_cases h1 : D < hi
      · have t1 : (D : Int) < (hi : Int) := by omega
        have t2 : decide ((D : Int) < (hi : Int)) = true := by simp; omega
        have nQ0 : (0 : Int) ≤ (Q : Int) := by omega
        have nQ1 : (Q : Int) < (n : Int) := by omega
        have c1 := (hO.out.cell (show P < n by omega)).trans (congrArg some (eU_of hx))
        have c2 := (hO.out.cell (show Q < n by omega)).trans (congrArg some (eU_of hy))
        have CL := Lib.hid (fun W => cmp_Less_u16 x y W)
        obtain ⟨B, hLB⟩ : ∃ B, ltN x y = B := ⟨_, rfl⟩
        rw [hLB] at CL
        have HLB := Lib.hid hLB
        clear hx hy hz hLB hC hD hP hQ hR
        cases B
        · have hSd : Hid (SdC hi F r dk C) := .inr ⟨by rw [HC.out]; exact hCi, fun _ => by rw [show F + (2 * r + 1) = P by rw [HC.out, HP.out], show F + (2 * r + 2) = Q by have := HC.out; have := HP.out; have := HQ.out; omega, HX.out, HY.out]; exact HLB.out, HC.out.symm⟩
          go_wp2_with fail
          go_quiet ((go_at_call 90; (first | (with_reducible exact quiet_on (fun W' => CL.out W')) | (with_reducible exact quiet_at (fun W' => CL.out W')) | exact CL.out _)))
          have hO8 := Lib.hid (hO.out.drewN nq)
          have hB8 := Lib.hid (below_drewN hB.out nq)
          clear c1 c2 CL
          obtain ⟨w8, hw8⟩ : ∃ w8, wr.drewN nq = w8 := ⟨_, rfl⟩
          rw [hw8] at hO8 hB8 ⊢
          clear hw8 nq
          go_wp2_with fail
          have c3 := (hO8.out.cell (show R < n by omega)).trans (congrArg some (eU_of HZ.out))
          have c4 := (hO8.out.cell (show P < n by omega)).trans (congrArg some (eU_of HX.out))
          have CL := Lib.hid (fun W => cmp_Less_u16 z x W)
          obtain ⟨B2, hLB2⟩ : ∃ B2, ltN z x = B2 := ⟨_, rfl⟩
          rw [hLB2] at CL
          have HLB2 := Lib.hid hLB2
          have hFX : Hid (F + C = P) := by have := HP.out; have := HQ.out; have := HD.out; exact (by omega : F + C = P)
          clear hLB2
          cases B2
          · have hS : Hid (Sort.siftDown ltN hi F lo d = dk) := by rw [← hE.out, sd_stop hSd.out (by rw [HR.out, hFX.out, HZ.out, HX.out]; exact HLB2.out)]; trivial
            go_quiet ((go_at_call 90; (first | (with_reducible exact quiet_on (fun W' => CL.out W')) | (with_reducible exact quiet_at (fun W' => CL.out W')) | exact CL.out _)))
            go_wp2_with fail
            (try simp only [Exit.inBlock, Exit.then])
            refine bodyPost_ret (results_none rfl _ _ _) rfl ?_
            refine ⟨rfl, ?_, below_drewN hB8.out _⟩
            rw [hS.out]
            exact hO8.out.drewN _
          · have hE2 : Hid (Sort.siftDown ltN hi F C (Sort.swp dk R P) = Sort.siftDown ltN hi F lo d) := by
              have := sd_go hSd.out (by rw [HR.out, hFX.out, HZ.out, HX.out]; exact HLB2.out)
              rw [HR.out, hFX.out] at this
              exact this.symm.trans hE.out
            have hne : R ≠ P := by have := HR.out; have := hFX.out; have := HC.out; have := HD.out; omega
            have hne2 : (R : Int) ≠ (P : Int) := by omega
            have hrX : r < C := by have := HC.out; have := HD.out; omega
            have hXh : C ≤ hi := by omega
            go_quiet ((go_at_call 90; (first | (with_reducible exact quiet_on (fun W' => CL.out W')) | (with_reducible exact quiet_at (fun W' => CL.out W')) | exact CL.out _)))
            have hO9 := Lib.hid (hO8.out.drewN nq)
            have hB9 := Lib.hid (below_drewN hB8.out nq)
            clear c3 c4
            obtain ⟨w9, hw9⟩ : ∃ w9, w8.drewN nq = w9 := ⟨_, rfl⟩
            rw [hw9] at hO9 hB9 ⊢
            clear hw9 nq
            have c3 := (hO9.out.cell (show R < n by omega)).trans (congrArg some (eU_of HZ.out))
            have c4 := (hO9.out.cell (show P < n by omega)).trans (congrArg some (eU_of HX.out))
            have f3 := hO9.out.frozen R
            have f4 := hO9.out.frozen P
            have HO2 := Lib.hid (own_swap hO9.out hdk (show R < n by omega) (show P < n by omega) HZ.out HX.out)
            have HB2 := Lib.hid (below_swap (i := R) (j := P) (u := .int .u16 (x : Int)) (v := .int .u16 (z : Int)) hO9.out hB9.out HB.out)
            go_wp2_with fail
            go_region
            all_goals
              go_wp2_with fail
              go_roundw
              case rel => exact ⟨C, Sort.swp dk R P, by go_num, by omega, by rw [sz_swp]; exact hdk, own_drew HO2.out, hE2, below_drewN HB2.out 1⟩
              case measure => simp [intOf]; omega
        · have hSd : Hid (SdC hi F r dk D) := .inl ⟨by have := HC.out; have := HD.out; omega, by rw [show F + (2 * r + 1) = P by rw [HC.out, HP.out], show F + (2 * r + 2) = Q by have := HC.out; have := HP.out; have := HQ.out; omega, HX.out, HY.out]; exact HLB.out, by have := HC.out; have := HD.out; omega⟩
          go_wp2_with fail
          go_quiet ((go_at_call 90; (first | (with_reducible exact quiet_on (fun W' => CL.out W')) | (with_reducible exact quiet_at (fun W' => CL.out W')) | exact CL.out _)))
          have hO8 := Lib.hid (hO.out.drewN nq)
          have hB8 := Lib.hid (below_drewN hB.out nq)
          clear c1 c2 CL
          obtain ⟨w8, hw8⟩ : ∃ w8, wr.drewN nq = w8 := ⟨_, rfl⟩
          rw [hw8] at hO8 hB8 ⊢
          clear hw8 nq
          go_wp2_with fail
          have c3 := (hO8.out.cell (show R < n by omega)).trans (congrArg some (eU_of HZ.out))
          have c4 := (hO8.out.cell (show Q < n by omega)).trans (congrArg some (eU_of HY.out))
          have CL := Lib.hid (fun W => cmp_Less_u16 z y W)
          obtain ⟨B2, hLB2⟩ : ∃ B2, ltN z y = B2 := ⟨_, rfl⟩
          rw [hLB2] at CL
          have HLB2 := Lib.hid hLB2
          have hFX : Hid (F + D = Q) := by have := HP.out; have := HQ.out; have := HD.out; exact (by omega : F + D = Q)
          clear hLB2
          cases B2
          · have hS : Hid (Sort.siftDown ltN hi F lo d = dk) := by rw [← hE.out, sd_stop hSd.out (by rw [HR.out, hFX.out, HZ.out, HY.out]; exact HLB2.out)]; trivial
            go_quiet ((go_at_call 90; (first | (with_reducible exact quiet_on (fun W' => CL.out W')) | (with_reducible exact quiet_at (fun W' => CL.out W')) | exact CL.out _)))
            go_wp2_with fail
            (try simp only [Exit.inBlock, Exit.then])
            refine bodyPost_ret (results_none rfl _ _ _) rfl ?_
            refine ⟨rfl, ?_, below_drewN hB8.out _⟩
            rw [hS.out]
            exact hO8.out.drewN _
          · have hE2 : Hid (Sort.siftDown ltN hi F D (Sort.swp dk R Q) = Sort.siftDown ltN hi F lo d) := by
              have := sd_go hSd.out (by rw [HR.out, hFX.out, HZ.out, HY.out]; exact HLB2.out)
              rw [HR.out, hFX.out] at this
              exact this.symm.trans hE.out
            have hne : R ≠ Q := by have := HR.out; have := hFX.out; have := HC.out; have := HD.out; omega
            have hne2 : (R : Int) ≠ (Q : Int) := by omega
            have hrX : r < D := by have := HC.out; have := HD.out; omega
            have hXh : D ≤ hi := by omega
            go_quiet ((go_at_call 90; (first | (with_reducible exact quiet_on (fun W' => CL.out W')) | (with_reducible exact quiet_at (fun W' => CL.out W')) | exact CL.out _)))
            have hO9 := Lib.hid (hO8.out.drewN nq)
            have hB9 := Lib.hid (below_drewN hB8.out nq)
            clear c3 c4
            obtain ⟨w9, hw9⟩ : ∃ w9, w8.drewN nq = w9 := ⟨_, rfl⟩
            rw [hw9] at hO9 hB9 ⊢
            clear hw9 nq
            have c3 := (hO9.out.cell (show R < n by omega)).trans (congrArg some (eU_of HZ.out))
            have c4 := (hO9.out.cell (show Q < n by omega)).trans (congrArg some (eU_of HY.out))
            have f3 := hO9.out.frozen R
            have f4 := hO9.out.frozen Q
            have HO2 := Lib.hid (own_swap hO9.out hdk (show R < n by omega) (show Q < n by omega) HZ.out HY.out)
            have HB2 := Lib.hid (below_swap (i := R) (j := Q) (u := .int .u16 (y : Int)) (v := .int .u16 (z : Int)) hO9.out hB9.out HB.out)
            go_wp2_with fail
            go_region
            all_goals
              go_wp2_with fail
              go_roundw
              case rel => exact ⟨D, Sort.swp dk R Q, by go_num, by omega, by rw [sz_swp]; exact hdk, own_drew HO2.out, hE2, below_drewN HB2.out 1⟩
              case measure => simp [intOf]; omega
      · have t1 : ¬ ((D : Int) < (hi : Int)) := by omega
        have t2 : decide ((D : Int) < (hi : Int)) = false := by simp; omega
        have hSd : Hid (SdC hi F r dk C) := .inr ⟨by rw [hC]; exact hCi, fun h => absurd h (by omega), hC.symm⟩
        clear hx hy hz hC hD hP hQ hR
        go_wp2_with fail
        go_quiet (fail)
        have hO8 := Lib.hid (hO.out.drewN nq)
        have hB8 := Lib.hid (below_drewN hB.out nq)
        clear t1
        obtain ⟨w8, hw8⟩ : ∃ w8, wr.drewN nq = w8 := ⟨_, rfl⟩
        rw [hw8] at hO8 hB8 ⊢
        clear hw8 nq
        go_wp2_with fail
        have c3 := (hO8.out.cell (show R < n by omega)).trans (congrArg some (eU_of HZ.out))
        have c4 := (hO8.out.cell (show P < n by omega)).trans (congrArg some (eU_of HX.out))
        have CL := Lib.hid (fun W => cmp_Less_u16 z x W)
        obtain ⟨B2, hLB2⟩ : ∃ B2, ltN z x = B2 := ⟨_, rfl⟩
        rw [hLB2] at CL
        have HLB2 := Lib.hid hLB2
        have hFX : Hid (F + C = P) := by have := HP.out; have := HQ.out; have := HD.out; exact (by omega : F + C = P)
        clear hLB2
        cases B2
        · have hS : Hid (Sort.siftDown ltN hi F lo d = dk) := by rw [← hE.out, sd_stop hSd.out (by rw [HR.out, hFX.out, HZ.out, HX.out]; exact HLB2.out)]; trivial
          go_quiet ((go_at_call 90; (first | (with_reducible exact quiet_on (fun W' => CL.out W')) | (with_reducible exact quiet_at (fun W' => CL.out W')) | exact CL.out _)))
          go_wp2_with fail
          (try simp only [Exit.inBlock, Exit.then])
          refine bodyPost_ret (results_none rfl _ _ _) rfl ?_
          refine ⟨rfl, ?_, below_drewN hB8.out _⟩
          rw [hS.out]
          exact hO8.out.drewN _
        · have hE2 : Hid (Sort.siftDown ltN hi F C (Sort.swp dk R P) = Sort.siftDown ltN hi F lo d) := by
            have := sd_go hSd.out (by rw [HR.out, hFX.out, HZ.out, HX.out]; exact HLB2.out)
            rw [HR.out, hFX.out] at this
            exact this.symm.trans hE.out
          have hne : R ≠ P := by have := HR.out; have := hFX.out; have := HC.out; have := HD.out; omega
          have hne2 : (R : Int) ≠ (P : Int) := by omega
          have hrX : r < C := by have := HC.out; have := HD.out; omega
          have hXh : C ≤ hi := by omega
          go_quiet ((go_at_call 90; (first | (with_reducible exact quiet_on (fun W' => CL.out W')) | (with_reducible exact quiet_at (fun W' => CL.out W')) | exact CL.out _)))
          have hO9 := Lib.hid (hO8.out.drewN nq)
          have hB9 := Lib.hid (below_drewN hB8.out nq)
          clear c3 c4
          obtain ⟨w9, hw9⟩ : ∃ w9, w8.drewN nq = w9 := ⟨_, rfl⟩
          rw [hw9] at hO9 hB9 ⊢
          clear hw9 nq
          have c3 := (hO9.out.cell (show R < n by omega)).trans (congrArg some (eU_of HZ.out))
          have c4 := (hO9.out.cell (show P < n by omega)).trans (congrArg some (eU_of HX.out))
          have f3 := hO9.out.frozen R
          have f4 := hO9.out.frozen P
          have HO2 := Lib.hid (own_swap hO9.out hdk (show R < n by omega) (show P < n by omega) HZ.out HX.out)
          have HB2 := Lib.hid (below_swap (i := R) (j := P) (u := .int .u16 (x : Int)) (v := .int .u16 (z : Int)) hO9.out hB9.out HB.out)
          go_wp2_with fail
          go_region
          all_goals
            go_wp2_with fail
            go_roundw
            case rel => exact ⟨C, Sort.swp dk R P, by go_num, by omega, by rw [sz_swp]; exact hdk, own_drew HO2.out, hE2, below_drewN HB2.out 1⟩
            case measure => simp [intOf]; omega
end Go.Proofs.Ytmeffbooabionaa
