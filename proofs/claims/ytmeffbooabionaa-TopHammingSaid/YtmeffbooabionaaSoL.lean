/- slices.pdqsortOrdered and slices.Sort at uint16: it computes the plain pattern-defeating quicksort. -/
import Derived.Test.YtmeffbooabionaaSoB
import Derived.Test.YtmeffbooabionaaSoG
import Derived.Test.YtmeffbooabionaaSoI
import Derived.Test.YtmeffbooabionaaSoK
set_option linter.unusedVariables false
set_option linter.unusedSimpArgs false
namespace Go.Proofs.Ytmeffbooabionaa
open Go.RowKit

theorem hint_two {h : Sort.Hint} (e : Sort.hintCode h = 2) : h = .decreasing := by cases h <;> simp [Sort.hintCode] at e ⊢
theorem eighth {L T l t : Nat} (hl : l / 8 = t) (hL : L = T) : decide (t ≤ L) = decide (T ≥ l / 8) := by
  subst hL
  rw [hl]
set_option maxHeartbeats 16000000 in
set_option maxRecDepth 1000000 in
theorem so_pdq : ∀ (N n a b limit base g cap : Nat) (d : Array Nat) (w : World), b - a < N → n ≤ 1000000 → d.size = n → a ≤ b → b ≤ n → limit ≤ 1000 → Sort.Below ltN a b d → Own w base 29 g n cap (eU d) → base ≤ w.heap.size →
    Calls Try.prog 66 #[.slice (some ⟨g, 0, none⟩) n cap, .int .i64 a, .int .i64 b, .int .i64 limit] w (SoPost base n g cap w (.tuple #[]) (Sort.pdq ltN d a b limit true true)) := by
  intro N
  induction N with
  | zero => intro _ _ _ _ _ _ _ _ _ h; exact absurd h (Nat.not_lt_zero _)
  | succ N ih =>
    intro n a b limit base g cap d w hN hn hd hab hb hlimit hBel0 hO hbase
    have IH := Lib.hid ih
    have HB : Hid (base ≤ w.heap.size) := hbase
    have HO : Hid (Own w base 29 g n cap (eU d)) := hO
    have hcp := hO.caps
    have hc1 : (n : Int) ≤ (cap : Int) := by omega
    have hBEL0 := Lib.hid hBel0
    clear ih hO hbase hBel0 hcp
    go_enter Try.func66, Try.ntmps66
    go_wp2_with fail
    go_loopg [1, 2, 3, 8, 9] (b - a) (fun k s1 s2 s3 s8 s9 wr => ∃ (a' b' lim : Nat) (wb wp : Bool) (dk : Array Nat), s1 = .int .i64 a' ∧ s2 = .int .i64 b' ∧ s3 = .int .i64 lim ∧ s8 = .bool wb ∧ s9 = .bool wp ∧
      a' ≤ b' ∧ b' ≤ n ∧ b' - a' ≤ k ∧ k ≤ b - a ∧ lim ≤ limit ∧ dk.size = n ∧ Hid (Sort.Below ltN a' b' dk) ∧ Hid (Own wr base 29 g n cap (eU dk)) ∧ Hid (Below base w wr) ∧ Hid (Sort.pdq ltN dk a' b' lim wb wp = Sort.pdq ltN d a b limit true true))
    case atStart => exact ⟨a, b, limit, true, true, d, rfl, rfl, rfl, rfl, rfl, hab, hb, Nat.le_refl _, Nat.le_refl _, Nat.le_refl _, hd, hBEL0, HO, Below.refl _ _, rfl⟩
    case round =>
      obtain ⟨a', b', lim, wb, wp, dk, rfl, rfl, rfl, rfl, rfl, hab', hb', hk, hkN, hlim, hdk, hBel, hO, hB, hE⟩ := hrel
      have hsz : Hid (base ≤ wr.heap.size) := Nat.le_trans HB.out hB.out.size
      obtain ⟨l, hl⟩ : ∃ l, b' - a' = l := ⟨_, rfl⟩
      have el : (b' : Int) - (a' : Int) = (l : Int) := by omega
      have HL := Lib.hid hl
      clear HO
      by_cases h12 : l ≤ 12
      · have z12 : (l : Int) ≤ 12 := by omega
        have CI := Lib.hid (so_insertion n dk a' b' base g cap wr hn hdk hab' hb' hO.out hsz.out)
        have hR : Hid (Sort.pdq ltN d a b limit true true = Sort.insertionSort ltN dk a' b') := hE.out.symm.trans (Sort.pdq_small (by rw [hl]; exact h12))
        clear hl
        go_wp2_with (first | (go_at_call 84; refine CI.out.mono ?_; rintro e w1 ⟨rfl, hO1, hB1⟩) | fail)
        (try simp only [Exit.inBlock, Exit.then])
        refine bodyPost_ret (results_none rfl _ _ _) rfl ?_
        rw [hR.out]
        exact ⟨rfl, hO1, hB.out.trans hB1⟩
      · have z12 : ¬ ((l : Int) ≤ 12) := by omega
        by_cases hl0 : lim = 0
        · subst hl0
          have CI := Lib.hid (so_heap n dk a' b' base g cap wr hn hdk hab' hb' hO.out hsz.out)
          have hR : Hid (Sort.pdq ltN d a b limit true true = Sort.heapSort ltN dk a' b') := hE.out.symm.trans (Sort.pdq_heap (by rw [hl]; exact h12) rfl)
          clear hl
          go_wp2_with (first | (go_at_call 85; refine CI.out.mono ?_; rintro e w1 ⟨rfl, hO1, hB1⟩) | fail)
          (try simp only [Exit.inBlock, Exit.then])
          refine bodyPost_ret (results_none rfl _ _ _) rfl ?_
          rw [hR.out]
          exact ⟨rfl, hO1, hB.out.trans hB1⟩
        · have hl0z : ¬ ((lim : Int) = 0) := by omega
          obtain ⟨s1, B1, hc1p, s2, B2, hpv, s3, B3⟩ := Sort.rd_facts (limit := lim) (wb := wb) (wp := wp) swoN Sort.partialInsertionSort_holds Sort.reverseRange_holds (show a' < b' by omega) (show b' ≤ dk.size by omega) hBel.out
          have hlimle := Sort.rd_lim_le (lt := ltN) (d := dk) (a := a') (b := b') (limit := lim) (wb := wb) (wp := wp)
          have PDone := Lib.hid (Sort.pdq_done (lt := ltN) (d := dk) (a := a') (b := b') (limit := lim) (wb := wb) (wp := wp) (by rw [hl]; exact h12) hl0)
          have PEq := Lib.hid (Sort.pdq_eq (lt := ltN) (d := dk) (a := a') (b := b') (limit := lim) (wb := wb) (wp := wp) (by rw [hl]; exact h12) hl0)
          have PLeft := Lib.hid (Sort.pdq_left (lt := ltN) (d := dk) (a := a') (b := b') (limit := lim) (wb := wb) (wp := wp) (by rw [hl]; exact h12) hl0)
          have PRight := Lib.hid (Sort.pdq_right (lt := ltN) (d := dk) (a := a') (b := b') (limit := lim) (wb := wb) (wp := wp) (by rw [hl]; exact h12) hl0)
          have RF := Lib.hid (fun h : wb = false => show (Sort.rd ltN dk a' b' lim wb wp).d1 = Sort.breakPatterns dk a' b' ∧ (Sort.rd ltN dk a' b' lim wb wp).lim = lim - 1 by subst h; exact Sort.rd_false)
          have RT := Lib.hid (fun h : wb = true => show (Sort.rd ltN dk a' b' lim wb wp).d1 = dk ∧ (Sort.rd ltN dk a' b' lim wb wp).lim = lim by subst h; exact Sort.rd_true)
          have RC := Lib.hid (Sort.rd_c (lt := ltN) (d := dk) (a := a') (b := b') (limit := lim) (wb := wb) (wp := wp))
          have RD := Lib.hid (Sort.rd_dec (lt := ltN) (d := dk) (a := a') (b := b') (limit := lim) (wb := wb) (wp := wp))
          have RN := Lib.hid (Sort.rd_not (lt := ltN) (d := dk) (a := a') (b := b') (limit := lim) (wb := wb) (wp := wp))
          have RY := Lib.hid (Sort.rd_pi_yes (lt := ltN) (d := dk) (a := a') (b := b') (limit := lim) (wb := wb) (wp := wp))
          have RO := Lib.hid (Sort.rd_pi_no (lt := ltN) (d := dk) (a := a') (b := b') (limit := lim) (wb := wb) (wp := wp))
          obtain ⟨R, hR⟩ : ∃ R, Sort.rd ltN dk a' b' lim wb wp = R := ⟨_, rfl⟩
          rw [hR] at s1 B1 hc1p s2 B2 hpv s3 B3 hlimle PDone PEq PLeft PRight RF RT RC RD RN RY RO
          rw [hdk] at s1 s2 s3
          have HB1 := Lib.hid B1
          have HB2 := Lib.hid B2
          have HB3 := Lib.hid B3
          clear hR B1 B2 B3 hl hBel
          obtain ⟨D1, LIM, C, D2, PV, HINT, PI⟩ := R
          obtain ⟨CP, CH⟩ := C
          obtain ⟨D3, PB⟩ := PI
          simp only [] at s1 HB1 hc1p s2 HB2 hpv s3 HB3 hlimle PDone PEq PLeft PRight RF RT RC RD RN RY RO
          go_upto_if 35 with fail
          go_cut [3] (fun s3 wc => s3 = .int .i64 LIM ∧ Hid (Own wc base 29 g n cap (eU D1)) ∧ Hid (Below base w wc))
          case first =>
            cases wb
            · obtain ⟨e1, e2⟩ := RF.out rfl
              have CI := Lib.hid (so_break n dk a' b' base g cap wr hn hdk (by omega) hb' hO.out hsz.out)
              rw [← e1] at CI
              have e3 : (lim : Int) - 1 = (LIM : Int) := by omega
              clear e1 e2
              go_wp2_with (first | (go_at_call 86; refine CI.out.mono ?_; rintro e w1 ⟨rfl, hO1, hB1⟩) | fail)
              go_meet
              exact ⟨rfl, hO1, hB.out.trans hB1⟩
            · obtain ⟨e1, e2⟩ := RT.out rfl
              subst e1 e2
              go_wp2_with fail
              go_meet
              exact ⟨rfl, hO, hB⟩
          case rest =>
            obtain ⟨rfl, hO1, hB1⟩ := hcut
            have hsz1 : Hid (base ≤ wc.heap.size) := Nat.le_trans HB.out hB1.out.size
            have CI := Lib.hid (so_pivot n D1 a' b' base g cap wc hn s1 (by omega) hb' hO1.out hsz1.out)
            rw [← RC.out] at CI
            simp only [] at CI
            go_upto_if 50 with (first | (go_at_call 87; refine CI.out.mono ?_; rintro e w2 ⟨rfl, hO2, hB2⟩) | fail)
            have hB2' : Hid (Below base w w2) := hB1.out.trans hB2
            have hsz2 : Hid (base ≤ w2.heap.size) := Nat.le_trans HB.out hB2'.out.size
            go_cut [11, 12] (fun s11 s12 wc => s11 = .int .i64 PV ∧ s12 = .int .i64 (Sort.hintCode HINT) ∧ Hid (Own wc base 29 g n cap (eU D2)) ∧ Hid (Below base w wc))
            case first =>
              by_cases hh : CH = .decreasing
              · have hcode : Sort.hintCode CH = 2 := by rw [hh]; rfl
                obtain ⟨e2, epv, eht⟩ := RD.out hh
                have CI := Lib.hid (so_reverse n D1 a' b' base g cap w2 hn s1 (by omega) hb' hO2 hsz2.out)
                rw [← e2] at CI
                have ep : (b' : Int) - 1 - ((CP : Int) - (a' : Int)) = (PV : Int) := by omega
                have eh : Hid (Sort.hintCode HINT = 1) := by rw [eht]; exact (rfl : (1 : Int) = 1)
                clear e2 epv eht hh
                go_wp2_with (first | (go_at_call 88; refine CI.out.mono ?_; rintro e w3 ⟨rfl, hO3, hB3⟩) | fail)
                go_meet
                exact ⟨rfl, by rw [eh.out], hO3, hB2'.out.trans hB3⟩
              · have hcode : ¬ (Sort.hintCode CH = 2) := fun h => hh (hint_two h)
                obtain ⟨e2, epv, eht⟩ := RN.out hh
                subst e2 epv eht
                go_wp2_with fail
                go_meet
                exact ⟨rfl, rfl, hO2, hB2'⟩
            case rest =>
              obtain ⟨rfl, rfl, hO3, hB3⟩ := hcut
              have hsz3 : Hid (base ≤ wc.heap.size) := Nat.le_trans HB.out hB3.out.size
              go_upto_region 15 with fail
              go_cut [12, 68] (fun s12 s68 wx => s12 = .int .i64 (Sort.hintCode HINT) ∧ s68 = .bool (wb && wp && decide (HINT = .increasing)) ∧ wx = wc)
              case first =>
                clear PDone PEq PLeft PRight RF RT RC RD RN RY RO hE
                cases wb <;> cases wp <;> cases HINT <;>
                  (simp only [Sort.hintCode]
                   go_wp2_with fail
                   go_meet
                   exact ⟨by simp [Sort.hintCode], by simp [Sort.hintCode], rfl⟩)
              case rest =>
                obtain ⟨rfl, rfl, rfl⟩ := hcut
                obtain ⟨T68, hT68⟩ : ∃ T68, (wb && wp && decide (HINT = .increasing)) = T68 := ⟨_, rfl⟩
                rw [hT68] at RY RO ⊢
                clear hT68
                go_upto_if 68 with fail
                go_cut [] (fun wx => PB = false ∧ Hid (Own wx base 29 g n cap (eU D3)) ∧ Hid (Below base w wx))
                case first =>
                  cases T68
                  · have epi := RO.out rfl
                    injection epi with e1 e2
                    subst e1 e2
                    go_wp2_with fail
                    go_meet
                    exact ⟨by simp, hO3, hB3⟩
                  · have epi := RY.out rfl
                    have CI := Lib.hid (so_partial n D2 a' b' base g cap wc hn s2 (by omega) hb' hO3.out hsz3.out)
                    rw [← epi] at CI
                    simp only [] at CI
                    clear epi
                    cases PB
                    · go_wp2_with (first | (go_at_call 89; refine CI.out.mono ?_; rintro e w4 ⟨rfl, hO4, hB4⟩) | fail)
                      go_meet
                      exact ⟨by simp, hO4, hB3.out.trans hB4⟩
                    · have hR := Lib.hid (hE.out.symm.trans (PDone.out rfl))
                      go_wp2_with (first | (go_at_call 89; refine CI.out.mono ?_; rintro e w4 ⟨rfl, hO4, hB4⟩) | fail)
                      (try simp only [Exit.inBlock, Exit.then])
                      refine bodyPost_ret (results_none rfl _ _ _) rfl ?_
                      rw [hR.out]
                      exact ⟨rfl, hO4, hB3.out.trans hB4⟩
                case rest =>
                  obtain ⟨rfl, hO5, hB5⟩ := hcut
                  clear hO1 hB1 hO2 hB2 hO3 hB3 hB2' hsz2 hsz3 hsz1 CI RF RT RC RD RN RY RO PDone
                  obtain ⟨x, hx⟩ : ∃ x, D3[PV]! = x := ⟨_, rfl⟩
                  have cx := (hO5.out.cell (show PV < n by omega)).trans (congrArg some (eU_of hx))
                  have q1 : (0 : Int) ≤ (PV : Int) := by omega
                  have q2 : (PV : Int) < (n : Int) := by omega
                  obtain ⟨T87, hT87⟩ : ∃ T87, (decide (a' > 0) && !ltN D3[a' - 1]! D3[PV]!) = T87 := ⟨_, rfl⟩
                  have HT87 := Lib.hid hT87
                  go_upto_region 17 with fail
                  go_cut [87] (fun s87 wx => s87 = .bool T87 ∧ Hid (Own wx base 29 g n cap (eU D3)) ∧ Hid (Below base w wx))
                  case first =>
                    by_cases ha0 : a' = 0
                    · subst ha0
                      have e0 : T87 = false := by rw [← hT87]; simp
                      subst e0
                      clear hx hT87
                      go_wp2_with fail
                      go_quiet (fail)
                      go_wp2_with fail
                      go_meet
                      exact ⟨rfl, hO5.out.drewN _, below_drewN hB5.out _⟩
                    · obtain ⟨p, hp⟩ : ∃ p, a' - 1 = p := ⟨_, rfl⟩
                      obtain ⟨y, hy⟩ : ∃ y, D3[p]! = y := ⟨_, rfl⟩
                      have cy := (hO5.out.cell (show p < n by omega)).trans (congrArg some (eU_of hy))
                      have q3 : (0 : Int) ≤ (p : Int) := by omega
                      have q4 : (p : Int) < (n : Int) := by omega
                      have t1 : (0 : Int) < (a' : Int) := by omega
                      have t2 : decide ((0 : Int) < (a' : Int)) = true := by simp; omega
                      have t3 : decide (0 < a') = true := by simp; omega
                      have e1 : (a' : Int) - 1 = (p : Int) := by omega
                      have e2 : IntKind.i64.wrap ((a' : Int) - 1) = (p : Int) := by rw [e1]; exact IntWalk.i64_in _ (by omega)
                      have CL := Lib.hid (fun W => cmp_Less_u16 y x W)
                      obtain ⟨B, hLB⟩ : ∃ B, ltN y x = B := ⟨_, rfl⟩
                      have e3 : T87 = !B := by rw [← hT87, hp, hy, hx, hLB]; simp; omega
                      rw [hLB] at CL
                      subst e3
                      clear hx hT87 hp hy hLB HT87
                      cases B
                      · go_wp2_with fail
                        go_quiet ((go_at_call 90; (first | (with_reducible exact quiet_on (fun W' => CL.out W')) | (with_reducible exact quiet_at (fun W' => CL.out W')) | exact CL.out _)))
                        go_wp2_with fail
                        go_meet
                        exact ⟨rfl, hO5.out.drewN _, below_drewN hB5.out _⟩
                      · go_wp2_with fail
                        go_quiet ((go_at_call 90; (first | (with_reducible exact quiet_on (fun W' => CL.out W')) | (with_reducible exact quiet_at (fun W' => CL.out W')) | exact CL.out _)))
                        go_wp2_with fail
                        go_meet
                        exact ⟨rfl, hO5.out.drewN _, below_drewN hB5.out _⟩
                  case rest =>
                    clear hO5 hB5 cx hx
                    obtain ⟨rfl, hO6, hB6⟩ := hcut
                    have hsz6 : Hid (base ≤ wc.heap.size) := Nat.le_trans HB.out hB6.out.size
                    cases T87
                    · obtain ⟨mid, ap, d4, hx⟩ : ∃ mid ap d4, Sort.partition ltN D3 a' b' PV = (mid, ap, d4) := ⟨(Sort.partition ltN D3 a' b' PV).1, (Sort.partition ltN D3 a' b' PV).2.1, (Sort.partition ltN D3 a' b' PV).2.2, rfl⟩
                      obtain ⟨r1, r2, r3, r4, r5, r6, r7⟩ := Sort.round_part swoN (Sort.partition_holds ltN) hpv.1 hpv.2 (show b' ≤ D3.size by omega) HB3.out hx
                      have CI := Lib.hid (so_part n D3 a' b' PV base g cap wc hn s3 hpv.1 hpv.2 hb' hO6.out hsz6.out)
                      rw [hx] at CI
                      simp only [] at CI
                      have r3' : d4.size = n := r3.trans s3
                      obtain ⟨LL, hLL⟩ : ∃ LL, mid - a' = LL := ⟨_, rfl⟩
                      obtain ⟨RL, hRL⟩ : ∃ RL, b' - mid = RL := ⟨_, rfl⟩
                      obtain ⟨t8, ht8⟩ : ∃ t8, l / 8 = t8 := ⟨_, rfl⟩
                      have eLL : (mid : Int) - (a' : Int) = (LL : Int) := by omega
                      have eRL : (b' : Int) - (mid : Int) = (RL : Int) := by omega
                      have et8 : Int.tdiv (l : Int) 8 = (t8 : Int) := by rw [Int.tdiv_eq_ediv_of_nonneg (by omega)]; omega
                      have et8b : (l : Int) / 8 = (t8 : Int) := by omega
                      have hlab : b' - a' = l := HL.out
                      have HLL := Lib.hid hLL
                      have HRL := Lib.hid hRL
                      have HT8 := Lib.hid ht8
                      have HR6 := Lib.hid r6
                      have HR7 := Lib.hid r7
                      have HR4 := Lib.hid r4
                      have HR5 := Lib.hid r5
                      have hLLl : LL + RL = l := by omega
                      clear r6 r7 r4 r5 ht8
                      by_cases h4 : LL < RL
                      · have h4z : (LL : Int) < (RL : Int) := by omega
                        have HX := Lib.hid ((PLeft.out rfl HT87.out (by rw [hx]; exact ⟨r1, r2⟩) (by rw [hx]; exact (show mid - a' < b' - mid by omega))).symm.trans hE.out)
                        rw [hx] at HX
                        simp only [] at HX
                        have PP := Lib.hid (Sort.pdq_sorts ltN swoN d4 a' mid LIM true true r1 (by omega) HR4.out)
                        have hIH := Lib.hid (fun W h1 h2 => IH.out n a' mid LIM base g cap d4 W (by omega) hn r3' r1 (by omega) (by omega) HR4.out h1 h2)
                        obtain ⟨d5, hd5⟩ : ∃ d5, Sort.pdq ltN d4 a' mid LIM true true = d5 := ⟨_, rfl⟩
                        rw [hd5] at HX PP hIH
                        have hs5 : d5.size = n := PP.out.1.1.trans r3'
                        have HBL := Lib.hid (HR6.out d5 PP.out.1 PP.out.2).1
                        have e8 := eighth (L := LL) (T := mid - a') (l := l) (t := t8) HT8.out hLL.symm
                        rw [hlab] at HX
                        rw [← e8] at HX
                        obtain ⟨m1, hm1⟩ : ∃ m1, mid + 1 = m1 := ⟨_, rfl⟩
                        have em : (mid : Int) + 1 = (m1 : Int) := by omega
                        rw [hm1] at HX HBL
                        have hmb : m1 ≤ b' := by omega
                        have hmk : b' - m1 < gk := by omega
                        have hmk2 : b' - m1 ≤ b - a := by omega
                        have hLm : LIM ≤ limit := Nat.le_trans hlimle hlim
                        clear hx hLL hRL e8 hd5 hlab hm1
                        go_wp2_with (first
                          | (go_at_call 92; refine CI.out.mono ?_; rintro e w7 ⟨rfl, hO7, hB7⟩)
                          | (go_at_call 66; refine (hIH.out _ hO7 (Nat.le_trans hsz6.out hB7.size)).mono ?_; rintro e w8 ⟨rfl, hO8, hB8⟩)
                          | fail)
                        go_roundg (b' - m1)
                        case measure => exact hmk
                        case rel => exact ⟨m1, b', LIM, _, ap, d5, rfl, rfl, rfl, rfl, rfl, hmb, hb', Nat.le_refl _, hmk2, hLm, hs5, HBL, hO8, (hB6.out.trans hB7).trans hB8, HX⟩
                      · have h4z : ¬ ((LL : Int) < (RL : Int)) := by omega
                        have HX := Lib.hid ((PRight.out rfl HT87.out (by rw [hx]; exact ⟨r1, r2⟩) (by rw [hx]; exact (show ¬ (mid - a' < b' - mid) by omega))).symm.trans hE.out)
                        rw [hx] at HX
                        simp only [] at HX
                        have PP := Lib.hid (Sort.pdq_sorts ltN swoN d4 (mid + 1) b' LIM true true (by omega) (by omega) HR5.out)
                        have hIH := Lib.hid (fun W h1 h2 => IH.out n (mid + 1) b' LIM base g cap d4 W (by omega) hn r3' (by omega) (by omega) (by omega) HR5.out h1 h2)
                        obtain ⟨d5, hd5⟩ : ∃ d5, Sort.pdq ltN d4 (mid + 1) b' LIM true true = d5 := ⟨_, rfl⟩
                        rw [hd5] at HX PP hIH
                        have hs5 : d5.size = n := PP.out.1.1.trans r3'
                        have HBL := Lib.hid (HR7.out d5 PP.out.1 PP.out.2).1
                        have e8 := eighth (L := RL) (T := b' - mid) (l := l) (t := t8) HT8.out hRL.symm
                        rw [hlab] at HX
                        rw [← e8] at HX
                        obtain ⟨m1, hm1⟩ : ∃ m1, mid + 1 = m1 := ⟨_, rfl⟩
                        have em : (mid : Int) + 1 = (m1 : Int) := by omega
                        rw [hm1] at hIH
                        have hmk : mid - a' < gk := by omega
                        have hmk2 : mid - a' ≤ b - a := by omega
                        have hLm : LIM ≤ limit := Nat.le_trans hlimle hlim
                        have hmn : mid ≤ n := by omega
                        clear hx hLL hRL e8 hd5 hlab hm1
                        go_wp2_with (first
                          | (go_at_call 92; refine CI.out.mono ?_; rintro e w7 ⟨rfl, hO7, hB7⟩)
                          | (go_at_call 66; refine (hIH.out _ hO7 (Nat.le_trans hsz6.out hB7.size)).mono ?_; rintro e w8 ⟨rfl, hO8, hB8⟩)
                          | fail)
                        go_roundg (mid - a')
                        case measure => exact hmk
                        case rel => exact ⟨a', mid, LIM, _, ap, d5, rfl, rfl, rfl, rfl, rfl, r1, hmn, Nat.le_refl _, hmk2, hLm, hs5, HBL, hO8, (hB6.out.trans hB7).trans hB8, HX⟩
                    · have h87' := HT87.out
                      simp only [Bool.and_eq_true, decide_eq_true_eq, Bool.not_eq_true'] at h87'
                      obtain ⟨mid, d4, hx⟩ : ∃ mid d4, Sort.partitionEqual ltN D3 a' b' PV = (mid, d4) := ⟨(Sort.partitionEqual ltN D3 a' b' PV).1, (Sort.partitionEqual ltN D3 a' b' PV).2, rfl⟩
                      obtain ⟨r1, r2, r3, r4, _⟩ := Sort.round_eq swoN (Sort.partitionEqual_holds ltN) h87'.1 hpv.1 hpv.2 (show b' ≤ D3.size by omega) HB3.out h87'.2 hx
                      have CI := Lib.hid (so_partEq n D3 a' b' PV base g cap wc hn s3 hpv.1 hpv.2 hb' hO6.out hsz6.out)
                      rw [hx] at CI
                      simp only [] at CI
                      have HX := Lib.hid ((PEq.out rfl HT87.out (by rw [hx]; exact ⟨r1, r2⟩)).symm.trans hE.out)
                      rw [hx] at HX
                      simp only [] at HX
                      have HR4 := Lib.hid r4
                      have hs4 : d4.size = n := r3.trans s3
                      have hmk : b' - mid < gk := by omega
                      have hmk2 : b' - mid ≤ b - a := by omega
                      have hLm : LIM ≤ limit := Nat.le_trans hlimle hlim
                      clear hx h87' r4 r3
                      go_wp2_with (first
                        | (go_at_call 91; refine CI.out.mono ?_; rintro e w7 ⟨rfl, hO7, hB7⟩)
                        | fail)
                      go_roundg (b' - mid)
                      case measure => exact hmk
                      case rel => exact ⟨mid, b', LIM, wb, wp, d4, rfl, rfl, rfl, rfl, rfl, r2, hb', Nat.le_refl _, hmk2, hLm, hs4, HR4, hO7, hB6.out.trans hB7, HX⟩
end Go.Proofs.Ytmeffbooabionaa
