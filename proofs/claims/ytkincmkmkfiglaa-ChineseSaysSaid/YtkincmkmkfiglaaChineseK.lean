/- ChineseSays: for arbitrary systems, all functions of package chinese answer what the reference answers. Conditions: none. -/
import Derived.Test.YtkincmkmkfiglaaRows
import Derived.Test.YtkincmkmkfiglaaChinese3
import Derived.Test.YtkincmkmkfiglaaGcdOf
import Derived.Test.YtkincmkmkfiglaaArgs2
namespace Go.Proofs.Ytkincmkmkfiglaa
open Go.RowKit

set_option maxRecDepth 20000 in
theorem chinese_Join_bad (zs : List (Int × Int)) (ao : Option Addr) (cap : Nat) (w : World) (hl : zs.length ≤ 9223372036854775807) (hz : chinE zs ≠ 0) (hR : Hid (Reads w ao (pairR zs))) :
    Calls Try.prog 25 #[.slice ao zs.length cap] w fun e w' => e = .returned (.tuple #[.int .i64 0, .int .i64 0, .int .i64 (chinE zs)]) ∧ Below w.heap.size w w' := by
  have HC := Lib.hid (chinese_Check zs ao cap w hl hR)
  obtain ⟨E, hE⟩ : ∃ E, chinE zs = E := ⟨_, rfl⟩
  rw [hE] at HC hz ⊢
  have d : (E != 0) = true := by simpa using hz
  clear hE hz
  go_enter Try.func25, Try.ntmps25
  go_wp2_with fail
  refine HC.out.mono ?_
  rintro e w' ⟨rfl, hb⟩
  have HB := Lib.hid hb
  clear hb
  go_wp2_with fail
  go_ret3
  exact ⟨rfl, HB.out⟩
theorem gcdOfN (a b : Nat) (w : World) (ha : a ≤ 1000000000000000000) (hb : b ≤ 1000000000000000000) :
    Calls Try.prog 32 #[.int .i64 a, .int .i64 b] w fun e w' => e = .returned (.int .i64 (Nat.gcd a b : Nat)) ∧ ∃ n, w' = w.drewN n := by
  have h := gcdOf (a : Int) (b : Int) w (by omega) (by omega) (by omega) (by omega)
  have e : gI (a : Int) (b : Int) = ((Nat.gcd a b : Nat) : Int) := by unfold gI; rw [Int.gcd_natCast_natCast]
  rw [e] at h
  exact h.mono fun e w' hh => ⟨hh.1, 0, hh.2.symm⟩
theorem hfn1c : ∀ (x : Value) (W : World), (callFunc 28 #[x]).run Try.prog W = .ok (.enter 28 #[x]) W := by
  intro x W
  show (_ : Result _) = _
  kernel_rfl
theorem containsFunc_mods (ms : List Int) (ao : Option Addr) (cap : Nat) (w : World) (hl : ms.length ≤ 9223372036854775807) (hR : Hid (Reads w ao (ms.map (Value.int .i64)))) :
    Calls Try.prog 27 #[.slice ao ms.length cap, .func (.func 28) #[] #[]] w fun e w' => e = .returned (.bool (ms.any mBad)) ∧ ∃ n, w' = w.drewN n :=
  containsFunc_int 28 hfn1c mBad ms ao cap w hl hR (Lib.hid fun x _ n => (chin1 x _).mono fun e w' hh => ⟨hh.1, 0, hh.2.symm⟩)
/-- All pairs of the first k agree. -/
def agreeTo (ps : List (Nat × Nat)) (k : Nat) : Prop := ∀ i j a b, j < i → i < k → ps[i]? = some a → ps[j]? = some b → ¬ odds a b
theorem agreeTo.no {ps : List (Nat × Nat)} {k : Nat} (h : agreeTo ps k) (hk : ps.length ≤ k) (ho : AnyOdds ps) : False := by
  obtain ⟨i, j, a, b, hj, ha, hb, hab⟩ := ho
  have := (List.getElem?_eq_some_iff.1 ha).1
  exact h i j a b hj (by omega) ha hb hab
theorem agreeTo.next {ps : List (Nat × Nat)} {k : Nat} {a : Nat × Nat} (h : agreeTo ps k) (hk : ps[k]? = some a) (hn : ∀ j b, j < k → ps[j]? = some b → ¬ odds a b) : agreeTo ps (k + 1) := by
  intro i j c b hj hi hc hb
  rcases Nat.lt_or_ge i k with h1 | h1
  · exact h i j c b hj h1 hc hb
  · obtain rfl : i = k := by omega
    rw [hk] at hc; cases hc
    exact hn j b hj hb
theorem odds_tmod {a b : Nat × Nat} {t : Int} (h : Int.tmod ((a.1 : Int) - b.1) ((Nat.gcd a.2 b.2 : Nat) : Int) = t) : odds a b ↔ t ≠ 0 := by
  unfold odds
  rw [← h, ne_eq, ← Int.dvd_iff_tmod_eq_zero]

set_option maxRecDepth 100000 in
set_option maxHeartbeats 8000000 in
theorem chineseSays_neg_e (ao : Option Addr) (cap : Nat) (zs : List (Int × Int)) (n : Int) (bo : Option Addr) (cap2 : Nat) (ms : List Int) (w : World) (h1 : PairsIn .i64 .i64 w ao zs.length zs) (hco : CapOk ao zs.length cap) (h2 : IntsIn .i64 w bo ms.length ms) (hnb : n ≤ 9223372036854775807) (hz : chinE zs ≠ 0) (hn : n < 0) :
    Calls Try.prog 5 #[.slice ao zs.length cap, .int .i64 n, .slice bo ms.length cap2] w fun e w' => e = .returned (.bool true) ∧ Below w.heap.size w w' := by
  have hl1 := h1.2.1
  have hl2 := h2.2.1
  have hcp : zs.length ≤ cap := hco.2.1
  have hR := Lib.hid h1.2.2.2
  have hR2 := Lib.hid h2.2.2.2
  have hcm : (cap : Int) ≤ 9223372036854775807 := by have := hco.2.2; omega
  have HP := Lib.hid (fun W hr => chinese_Parts n ms bo cap2 W hnb hl2 hr)
  have HK := Lib.hid (fun W hr => chinese_Check zs ao cap W hl1 hr)
  have HCR := Lib.hid (fun W hr => containsFunc_rest zs ao cap W hl1 hr)
  have HCM := Lib.hid (fun W hr => containsFunc_mods ms bo cap2 W hl2 hr)
  have HZ := Lib.hid hz
  clear hco
  have f1 : decide (n < 0) = true := decide_eq_true hn
  have hpe : partsE n ms = 1 := by unfold partsE; rw [if_pos hn]
  clear h1 h2 hz
  go_enter Try.func5, Try.ntmps5
  go_wp2_with fail
  refine (chinese_Join_bad zs ao cap w hl1 HZ.out hR).mono ?_
  rintro e w1 ⟨rfl, hb1⟩
  have HB1 := Lib.hid hb1
  have HRZ1 := Lib.hid (hR.out.below hb1)
  have HRM1 := Lib.hid (hR2.out.below hb1)
  clear hb1
  go_wp2_with fail
  refine (HP.out _ HRM1).mono ?_
  rintro e w2 ⟨pa, pl, pc, rfl, hb2, hpp⟩
  have HB2 := Lib.hid (HB1.out.trans (Below.mono hb2 HB1.out.size))
  have HRZ := Lib.hid (HRZ1.out.below hb2)
  have HRM := Lib.hid (HRM1.out.below hb2)
  rw [hpe] at hpp ⊢
  have hpq : pl = 0 := by
    rcases hpp with ⟨_, h⟩ | ⟨h, _⟩
    · exact h
    · cases h
  subst hpq
  clear hb2 hpp hpe HRZ1 HRM1 HB1
  obtain ⟨E, hE⟩ : ∃ E, chinE zs = E := ⟨_, rfl⟩
  have HE := Lib.hid hE
  rw [hE] at HK ⊢
  have hE0 : (E != 0) = true := by have := HZ.out; rw [hE] at this; simpa using this
  have hE1 : (E == 0) = false := by have := HZ.out; rw [hE] at this; simpa using this
  clear hE
  have HB5 := HB2
  have HRZ5 := HRZ
  clear HB2 HRZ
  go_wp2_with fail
  go_loop [66] (fun vi => vi = .int .i64 0) (fun _ => 0)
  case atStart => rfl
  case round =>
    subst hrel
    by_cases h6 : 6 < zs.length
    · have g1 : decide ((6 : Int) < zs.length) = true := by simp; omega
      have hE2 : E = 2 := by rw [← HE.out]; unfold chinE; rw [if_pos h6]
      subst hE2
      go_wp2_with fail
      refine (HK.out _ HRZ5).mono ?_
      rintro e1 w7 ⟨rfl, hb7⟩
      have HB7 := Lib.hid (HB5.out.trans (Below.mono hb7 HB5.out.size))
      clear hb7
      go_wp2_with fail
      go_loopw [12, 101] (fun vw vi wx => vw = .int .i64 2 ∧ ∃ k : Nat, vi = .int .i64 k ∧ k ≤ zs.length ∧ Hid (Below w.heap.size w wx)) (fun _ vi _ => zs.length - (intOf vi).toNat)
      case atStart => exact ⟨rfl, 0, rfl, by omega, HB7⟩
      case round =>
        obtain ⟨rfl, k, rfl, hk, hb⟩ := hrel
        by_cases hkl : k < zs.length
        · obtain ⟨z, hz⟩ : ∃ z, zs[k]? = some z := ⟨zs[k]'hkl, List.getElem?_eq_getElem _⟩
          obtain ⟨b3, o3, rfl, c1, c2⟩ := pair_cell (hR.out.below hb.out) hz
          have hkc : (k : Int) ≤ cap := by omega
          have hk0 : (0 : Int) ≤ k := by omega
          have HB8 := Lib.hid (hb.out.alloc hb.out.size (.cells #[.int .i64 z.1, .int .i64 z.2] 53))
          clear hz
          go_wp2_with fail
          go_loopw [12, 110] (fun vw vj wy => vw = .int .i64 2 ∧ ∃ j : Nat, vj = .int .i64 j ∧ j ≤ k ∧ Hid (Below w.heap.size w wy)) (fun _ vj _ => k - (intOf vj).toNat)
          case atStart => exact ⟨rfl, 0, rfl, by omega, HB8⟩
          case round =>
            obtain ⟨rfl, j, rfl, hj, hb⟩ := hrel
            by_cases hjk : j < k
            · obtain ⟨y, hy⟩ : ∃ y, zs[j]? = some y := ⟨zs[j]'(by omega), List.getElem?_eq_getElem _⟩
              obtain ⟨b4, o4, hao, c3, c4⟩ := pair_cell (hR.out.below hb.out) hy
              cases hao
              have HB9 := Lib.hid (hb.out.alloc hb.out.size (.cells #[.int .i64 y.1, .int .i64 y.2] 53))
              clear hy
              go_wp2_with fail
              go_quiet (fail)
              go_wp2_with fail
              go_roundw
              case rel => exact ⟨rfl, j + 1, by go_num, by omega, Lib.hid (below_drewN HB9.out _)⟩
              case measure => simp [intOf]; omega
            · go_wp2_with fail
              go_roundw
              case rel => exact ⟨rfl, k + 1, by go_num, by omega, hb⟩
              case measure => simp [intOf]; omega
        · go_wp2_with fail
          go_ret
          exact ⟨by simp, hb.out⟩
    · have g1 : decide ((6 : Int) < zs.length) = false := by simp; omega
      have hany : zs.any rBad = true := by
        have h1 := HE.out
        have h2 := HZ.out
        unfold chinE at h1 h2
        rw [if_neg h6] at h2
        cases h : zs.any rBad
        · rw [h] at h2; exact absurd rfl h2
        · rfl
      have hE2 : E = 1 := by rw [← HE.out]; unfold chinE; rw [if_neg h6, if_pos hany]
      subst hE2
      rw [hany] at HCR
      clear hany
      go_wp2_with fail
      refine (HCR.out _ HRZ5).mono ?_
      rintro e1 w6 ⟨rfl, hb6⟩
      have HB6 := Lib.hid (HB5.out.trans (Below.mono hb6 HB5.out.size))
      have HRZ6 := Lib.hid (HRZ5.out.below hb6)
      clear hb6
      go_wp2_with fail
      refine (HK.out _ HRZ6).mono ?_
      rintro e1 w7 ⟨rfl, hb7⟩
      have HB7 := Lib.hid (HB6.out.trans (Below.mono hb7 HB6.out.size))
      clear hb7
      go_wp2_with fail
      go_loopw [12, 101] (fun vw vi wx => vw = .int .i64 1 ∧ ∃ k : Nat, vi = .int .i64 k ∧ k ≤ zs.length ∧ Hid (Below w.heap.size w wx)) (fun _ vi _ => zs.length - (intOf vi).toNat)
      case atStart => exact ⟨rfl, 0, rfl, by omega, HB7⟩
      case round =>
        obtain ⟨rfl, k, rfl, hk, hb⟩ := hrel
        by_cases hkl : k < zs.length
        · obtain ⟨z, hz⟩ : ∃ z, zs[k]? = some z := ⟨zs[k]'hkl, List.getElem?_eq_getElem _⟩
          obtain ⟨b3, o3, rfl, c1, c2⟩ := pair_cell (hR.out.below hb.out) hz
          have hkc : (k : Int) ≤ cap := by omega
          have hk0 : (0 : Int) ≤ k := by omega
          have HB8 := Lib.hid (hb.out.alloc hb.out.size (.cells #[.int .i64 z.1, .int .i64 z.2] 53))
          clear hz
          go_wp2_with fail
          go_loopw [12, 110] (fun vw vj wy => vw = .int .i64 1 ∧ ∃ j : Nat, vj = .int .i64 j ∧ j ≤ k ∧ Hid (Below w.heap.size w wy)) (fun _ vj _ => k - (intOf vj).toNat)
          case atStart => exact ⟨rfl, 0, rfl, by omega, HB8⟩
          case round =>
            obtain ⟨rfl, j, rfl, hj, hb⟩ := hrel
            by_cases hjk : j < k
            · obtain ⟨y, hy⟩ : ∃ y, zs[j]? = some y := ⟨zs[j]'(by omega), List.getElem?_eq_getElem _⟩
              obtain ⟨b4, o4, hao, c3, c4⟩ := pair_cell (hR.out.below hb.out) hy
              cases hao
              have HB9 := Lib.hid (hb.out.alloc hb.out.size (.cells #[.int .i64 y.1, .int .i64 y.2] 53))
              clear hy
              go_wp2_with fail
              go_quiet (fail)
              go_wp2_with fail
              go_roundw
              case rel => exact ⟨rfl, j + 1, by go_num, by omega, Lib.hid (below_drewN HB9.out _)⟩
              case measure => simp [intOf]; omega
            · go_wp2_with fail
              go_roundw
              case rel => exact ⟨rfl, k + 1, by go_num, by omega, hb⟩
              case measure => simp [intOf]; omega
        · go_wp2_with fail
          go_ret
          exact ⟨by simp, hb.out⟩

set_option maxRecDepth 100000 in
set_option maxHeartbeats 8000000 in
theorem chineseSays_neg_z (ao : Option Addr) (cap : Nat) (zs : List (Int × Int)) (n : Int) (bo : Option Addr) (cap2 : Nat) (ms : List Int) (w : World) (h1 : PairsIn .i64 .i64 w ao zs.length zs) (hco : CapOk ao zs.length cap) (h2 : IntsIn .i64 w bo ms.length ms) (hnb : n ≤ 9223372036854775807) (hz : chinE zs = 0) (hn : n < 0) :
    Calls Try.prog 5 #[.slice ao zs.length cap, .int .i64 n, .slice bo ms.length cap2] w fun e w' => e = .returned (.bool true) ∧ Below w.heap.size w w' := by
  have hl1 := h1.2.1
  have hl2 := h2.2.1
  have hcp : zs.length ≤ cap := hco.2.1
  have hR := Lib.hid h1.2.2.2
  have hR2 := Lib.hid h2.2.2.2
  have hcm : (cap : Int) ≤ 9223372036854775807 := by have := hco.2.2; omega
  have HP := Lib.hid (fun W hr => chinese_Parts n ms bo cap2 W hnb hl2 hr)
  have HK := Lib.hid (fun W hr => chinese_Check zs ao cap W hl1 hr)
  have HCR := Lib.hid (fun W hr => containsFunc_rest zs ao cap W hl1 hr)
  have HCM := Lib.hid (fun W hr => containsFunc_mods ms bo cap2 W hl2 hr)
  have HZ := Lib.hid hz
  clear hco
  have f1 : decide (n < 0) = true := decide_eq_true hn
  have hpe : partsE n ms = 1 := by unfold partsE; rw [if_pos hn]
  clear h1 h2 hz
  go_enter Try.func5, Try.ntmps5
  go_wp2_with fail
  refine (chinese_Join zs ao cap w HZ.out hR).mono ?_
  rintro e w1 ⟨hb1, hjo⟩
  have HB1 := Lib.hid hb1
  have HRZ1 := Lib.hid (hR.out.below hb1)
  have HRM1 := Lib.hid (hR2.out.below hb1)
  have hch := chin_ok HZ.out
  have HALL := Lib.hid hch.2
  have h6l := hch.1
  rw [HZ.out] at HK
  clear hb1 hch
  rcases hjo with ⟨x, m, hsys, hm18, rfl⟩ | ⟨hodd, rfl⟩
  · have HSYS := Lib.hid hsys
    clear hsys
    go_wp2_with fail
    refine (HP.out _ HRM1).mono ?_
    rintro e w2 ⟨pa, pl, pc, rfl, hb2, hpp⟩
    have HB2 := Lib.hid (HB1.out.trans (Below.mono hb2 HB1.out.size))
    have HRZ := Lib.hid (HRZ1.out.below hb2)
    have HRM := Lib.hid (HRM1.out.below hb2)
    rw [hpe] at hpp ⊢
    have hpq : pl = 0 := by
      rcases hpp with ⟨_, h⟩ | ⟨h, _⟩
      · exact h
      · cases h
    subst hpq
    clear hb2 hpp hpe HRZ1 HRM1 HB1
    have HB5 := HB2
    have HRZ5 := HRZ
    clear HB2 HRZ
    go_wp2_with fail
    go_loop [66] (fun vi => vi = .int .i64 0) (fun _ => 0)
    case atStart => rfl
    case round =>
      subst hrel
      have g1 : decide ((6 : Int) < zs.length) = false := by simp; omega
      have hany : zs.any rBad = false := by
        rw [List.any_eq_false]
        intro z hz
        rw [HALL.out z hz]; decide
      rw [hany] at HCR
      clear hany
      obtain ⟨ps, hps⟩ : ∃ ps, natP zs = ps := ⟨_, rfl⟩
      have HPS := Lib.hid hps
      have hpl : ps.length = zs.length := by rw [← hps, natP_len]
      rw [hps] at HSYS
      clear hps
      go_wp2_with fail
      refine (HCR.out _ HRZ5).mono ?_
      rintro e1 w6 ⟨rfl, hb6⟩
      have HB6 := Lib.hid (HB5.out.trans (Below.mono hb6 HB5.out.size))
      have HRZ6 := Lib.hid (HRZ5.out.below hb6)
      clear hb6
      go_wp2_with fail
      refine (HK.out _ HRZ6).mono ?_
      rintro e1 w7 ⟨rfl, hb7⟩
      have HB7 := Lib.hid (HB6.out.trans (Below.mono hb7 HB6.out.size))
      clear hb7
      go_wp2_with fail
      go_loopw [12, 101] (fun vw vi wx => ∃ (k : Nat) (W : Int), vi = .int .i64 k ∧ k ≤ zs.length ∧ vw = .int .i64 W ∧ (W = 0 ∨ W = 4) ∧ Hid (W = 0 → agreeTo ps k) ∧ Hid (W = 4 → AnyOdds ps) ∧ Hid (Below w.heap.size w wx)) (fun _ vi _ => zs.length - (intOf vi).toNat)
      case atStart => exact ⟨0, 0, rfl, by omega, rfl, .inl rfl, Lib.hid (fun _ => by intro i j a b _ hi; omega), Lib.hid (fun h => by cases h), HB7⟩
      case round =>
        obtain ⟨k, W, rfl, hk, rfl, hW, hag, hod, hb⟩ := hrel
        by_cases hkl : k < zs.length
        · obtain ⟨z, hz⟩ : ∃ z, zs[k]? = some z := ⟨zs[k]'hkl, List.getElem?_eq_getElem _⟩
          obtain ⟨b3, o3, rfl, c1, c2⟩ := pair_cell (hR.out.below hb.out) hz
          obtain ⟨R, M, rfl, hM1, hM2, hRM, hpk⟩ := natP_get hz (HALL.out z (List.mem_of_getElem? hz))
          rw [HPS.out] at hpk
          have HPK := Lib.hid hpk
          dsimp only at c1 c2
          have hkc : (k : Int) ≤ cap := by omega
          have hk0 : (0 : Int) ≤ k := by omega
          have HB8 := Lib.hid (hb.out.alloc hb.out.size (.cells #[.int .i64 R, .int .i64 M] 53))
          obtain ⟨wa, hwa⟩ : ∃ wa, wr.alloc (.cells #[.int .i64 R, .int .i64 M] 53) = wa := ⟨_, rfl⟩
          have ca1 : Hid (wa.cell? ⟨wr.heap.size, 0, none⟩ = some (.int .i64 R)) := Lib.hid (by rw [← hwa]; simp [World.cell?_alloc_new])
          have ca2 : Hid (wa.cell? ⟨wr.heap.size, 1, none⟩ = some (.int .i64 M)) := Lib.hid (by rw [← hwa]; simp [World.cell?_alloc_new])
          rw [hwa] at HB8
          have HWA := Lib.hid hwa
          obtain ⟨ba, hba⟩ : ∃ ba, wr.heap.size = ba := ⟨_, rfl⟩
          rw [hba] at ca1 ca2
          have HBA := Lib.hid hba
          clear hz hpk hwa hba
          go_wp2_with fail
          rw [HWA.out, HBA.out]
          go_loopw [12, 110] (fun vw vj wy => ∃ (j : Nat) (W : Int), vj = .int .i64 j ∧ j ≤ k ∧ vw = .int .i64 W ∧ (W = 0 ∨ W = 4) ∧ Hid (W = 0 → agreeTo ps k ∧ ∀ i b, i < j → ps[i]? = some b → ¬ odds (R, M) b) ∧ Hid (W = 4 → AnyOdds ps) ∧ Hid (Below wa.heap.size wa wy)) (fun _ vj _ => k - (intOf vj).toNat)
          case atStart => exact ⟨0, W, rfl, by omega, rfl, hW, Lib.hid (fun h => ⟨hag.out h, fun i b hi => by omega⟩), hod, Below.refl _ _⟩
          case round =>
            obtain ⟨j, W, rfl, hj, rfl, hW, hag, hod, hby⟩ := hrel
            by_cases hjk : j < k
            · obtain ⟨y, hy⟩ : ∃ y, zs[j]? = some y := ⟨zs[j]'(by omega), List.getElem?_eq_getElem _⟩
              obtain ⟨b4, o4, hao, c3, c4⟩ := pair_cell ((hR.out.below HB8.out).below hby.out) hy
              obtain ⟨R2, M2, rfl, hN1, hN2, hRN, hpj⟩ := natP_get hy (HALL.out y (List.mem_of_getElem? hy))
              rw [HPS.out] at hpj
              have HPJ := Lib.hid hpj
              cases hao
              dsimp only at c3 c4
              have cA1 : (wr.alloc (.cells #[.int .i64 R2, .int .i64 M2] 53)).cell? ⟨ba, 0, none⟩ = some (.int .i64 R) := ((Below.alloc (Below.refl _ wr) (Nat.le_refl _) _).cell (World.block_lt_of_cell? wr _ ((hby.out.cell (World.block_lt_of_cell? wa _ ca1.out)).trans ca1.out))).trans ((hby.out.cell (World.block_lt_of_cell? wa _ ca1.out)).trans ca1.out)
              have cA2 : (wr.alloc (.cells #[.int .i64 R2, .int .i64 M2] 53)).cell? ⟨ba, 1, none⟩ = some (.int .i64 M) := ((Below.alloc (Below.refl _ wr) (Nat.le_refl _) _).cell (World.block_lt_of_cell? wr _ ((hby.out.cell (World.block_lt_of_cell? wa _ ca2.out)).trans ca2.out))).trans ((hby.out.cell (World.block_lt_of_cell? wa _ ca2.out)).trans ca2.out)
              have cB1 : (wr.alloc (.cells #[.int .i64 R2, .int .i64 M2] 53)).cell? ⟨wr.heap.size, 0, none⟩ = some (.int .i64 R2) := by simp [World.cell?_alloc_new]
              have cB2 : (wr.alloc (.cells #[.int .i64 R2, .int .i64 M2] 53)).cell? ⟨wr.heap.size, 1, none⟩ = some (.int .i64 M2) := by simp [World.cell?_alloc_new]
              have HB9 := Lib.hid (hby.out.alloc hby.out.size (.cells #[.int .i64 R2, .int .i64 M2] 53))
              clear hy hpj
              rcases hW with rfl | rfl
              · obtain ⟨g, hg⟩ : ∃ g, Nat.gcd M M2 = g := ⟨_, rfl⟩
                have hg0 : 1 ≤ g := by rw [← hg]; exact Nat.gcd_pos_of_pos_right _ (by omega)
                have hgM : g ≤ M2 := by rw [← hg]; exact Nat.gcd_le_right _ (by omega)
                have HGC := Lib.hid (fun W' => gcdOfN M M2 W' (by omega) (by omega))
                rw [hg] at HGC
                obtain ⟨d, hd⟩ : ∃ d, (R : Int) - R2 = d := ⟨_, rfl⟩
                have wd : IntKind.i64.wrap d = d := IntWalk.i64_in _ (by omega)
                obtain ⟨t, ht⟩ : ∃ t, Int.tmod d (g : Int) = t := ⟨_, rfl⟩
                have htb : -1000 ≤ t ∧ t ≤ 1000 := by
                  have h1 := Int.lt_tmod_of_pos d (b := (g : Int)) (by omega)
                  have h2 := Int.tmod_lt_of_pos d (b := (g : Int)) (by omega)
                  omega
                have wt : IntKind.i64.wrap t = t := IntWalk.i64_in _ (by omega)
                have hodt : Hid (odds (R, M) (R2, M2) ↔ t ≠ 0) := odds_tmod (by dsimp only; rw [hd, hg]; exact ht)
                have hg0I : ¬ ((g : Int) = 0) := by omega
                clear hg
                by_cases ht0 : t = 0
                · have dt : (t != 0) = false := by simpa using ht0
                  have hag2 : Hid (agreeTo ps k ∧ ∀ i b, i < j + 1 → ps[i]? = some b → ¬ odds (R, M) b) := by
                    obtain ⟨h1, h2⟩ := hag.out rfl
                    refine ⟨h1, fun i b hi hb => ?_⟩
                    rcases Nat.lt_or_ge i j with h | h
                    · exact h2 i b h hb
                    · obtain rfl : i = j := by omega
                      rw [HPJ.out] at hb; cases hb
                      intro ho
                      exact hodt.out.1 ho ht0
                  clear ht0
                  go_wp2_with fail
                  go_quiet ((go_at_call 32; (first | exact quiet_at0 (fun W' => HGC.out W') | exact quiet_at (fun W' => HGC.out W'))))
                  go_wp2_with fail
                  go_roundw
                  case rel => exact ⟨j + 1, 0, by go_num, by omega, rfl, .inl rfl, Lib.hid (fun _ => hag2.out), Lib.hid (fun h => by cases h), Lib.hid (below_drewN HB9.out _)⟩
                  case measure => simp [intOf]; omega
                · have dt : (t != 0) = true := by simpa using ht0
                  have hod2 : Hid (AnyOdds ps) := ⟨k, j, (R, M), (R2, M2), hjk, HPK.out, HPJ.out, hodt.out.2 ht0⟩
                  clear ht0
                  go_wp2_with fail
                  go_quiet ((go_at_call 32; (first | exact quiet_at0 (fun W' => HGC.out W') | exact quiet_at (fun W' => HGC.out W'))))
                  go_wp2_with fail
                  go_roundw
                  case rel => exact ⟨j + 1, 4, by go_num, by omega, rfl, .inr rfl, Lib.hid (fun h => by cases h), Lib.hid (fun _ => hod2.out), Lib.hid (below_drewN HB9.out _)⟩
                  case measure => simp [intOf]; omega
              · have hodx : Hid (AnyOdds ps) := hod.out rfl
                go_wp2_with fail
                go_quiet (fail)
                go_wp2_with fail
                go_roundw
                case rel => exact ⟨j + 1, 4, by go_num, by omega, rfl, .inr rfl, Lib.hid (fun h => by cases h), Lib.hid (fun _ => hodx.out), Lib.hid (below_drewN HB9.out _)⟩
                case measure => simp [intOf]; omega
            · have hag2 : Hid (W = 0 → agreeTo ps (k + 1)) := fun h => by
                obtain ⟨h1, h2⟩ := hag.out h
                exact h1.next HPK.out fun i b hi hb => h2 i b (by omega) hb
              have HB9 := Lib.hid (HB8.out.trans (Below.mono hby.out HB8.out.size))
              go_wp2_with fail
              go_roundw
              case rel => exact ⟨k + 1, W, by go_num, by omega, rfl, hW, hag2, hod, HB9⟩
              case measure => simp [intOf]; omega
        · have hW0 : W = 0 := by
            rcases hW with h | h
            · exact h
            · exact (HSYS.out.not_odds (hod.out h)).elim
          subst hW0
          have hxm := HSYS.out.lt
          go_wp2_with fail
          go_loopw [15, 147] (fun va vi wx => ∃ k A : Nat, vi = .int .i64 k ∧ k ≤ zs.length ∧ va = .int .i64 A ∧ Hid (A = lcmF (ps.take k)) ∧ Hid (A ≤ 1000 ^ k) ∧ Hid (Below w.heap.size w wx)) (fun _ vi _ => zs.length - (intOf vi).toNat)
          case atStart => exact ⟨0, 1, rfl, by omega, rfl, rfl, Lib.hid (Nat.le_refl _), hb⟩
          case round =>
            obtain ⟨k, A, rfl, hk, rfl, hA, hAb, hb⟩ := hrel
            by_cases hkl : k < zs.length
            · obtain ⟨z, hz⟩ : ∃ z, zs[k]? = some z := ⟨zs[k]'hkl, List.getElem?_eq_getElem _⟩
              obtain ⟨b3, o3, rfl, c1, c2⟩ := pair_cell (hR.out.below hb.out) hz
              obtain ⟨R, M, rfl, hM1, hM2, hRM, hpk⟩ := natP_get hz (HALL.out z (List.mem_of_getElem? hz))
              rw [HPS.out] at hpk
              dsimp only at c1 c2
              have hA18 : A ≤ 1000000000000000 := Nat.le_trans hAb.out (Nat.le_trans (Nat.pow_le_pow_right (by omega) (show k ≤ 5 by omega)) (by decide))
              obtain ⟨g, hg⟩ : ∃ g, Nat.gcd A M = g := ⟨_, rfl⟩
              have hg0 : 1 ≤ g := by rw [← hg]; exact Nat.gcd_pos_of_pos_right _ (by omega)
              have HGC := Lib.hid (fun W' => gcdOfN A M W' (by omega) (by omega))
              rw [hg] at HGC
              obtain ⟨u, hu⟩ : ∃ u, A / g = u := ⟨_, rfl⟩
              have hu18 : u ≤ A := by rw [← hu]; exact Nat.div_le_self _ _
              have eu : (A : Int) / (g : Int) = (u : Int) := by rw [← hu]; push_cast; rfl
              obtain ⟨v, hv⟩ : ∃ v, u * M = v := ⟨_, rfl⟩
              have hvb : v ≤ A * 1000 := by rw [← hv]; exact Nat.mul_le_mul hu18 hM2
              have ev : (u : Int) * (M : Int) = (v : Int) := by rw [← hv]; push_cast; rfl
              have wu : IntKind.i64.wrap (u : Int) = (u : Int) := IntWalk.i64_in _ (by omega)
              have wv : IntKind.i64.wrap (v : Int) = (v : Int) := IntWalk.i64_in _ (by omega)
              have hnewA : Hid (v = lcmF (ps.take (k + 1))) := by
                show _ = _
                rw [List.take_add_one, hpk]
                show _ = lcmF (ps.take k ++ [(R, M)])
                rw [lcmF_snoc, ← hA.out, ← lcm_quo', hg, hu, hv]
              have hnewb : Hid (v ≤ 1000 ^ (k + 1)) := by
                show _ ≤ _
                rw [Nat.pow_succ]
                exact Nat.le_trans hvb (Nat.mul_le_mul_right _ hAb.out)
              have hres : x % M = R := HSYS.out.res (R, M) (List.mem_of_getElem? hpk)
              have er : (x : Int) % (M : Int) = (R : Int) := by rw [← hres]; push_cast; rfl
              have eR : ((R : Int) != (R : Int)) = false := by simp
              have wR : IntKind.i64.wrap (R : Int) = (R : Int) := IntWalk.i64_in _ (by omega)
              have hg0I : ¬ ((g : Int) = 0) := by omega
              have hM0I : ¬ ((M : Int) = 0) := by omega
              have cb1 : (wr.alloc (.cells #[.int .i64 R, .int .i64 M] 53)).cell? ⟨wr.heap.size, 0, none⟩ = some (.int .i64 R) := by simp [World.cell?_alloc_new]
              have cb2 : (wr.alloc (.cells #[.int .i64 R, .int .i64 M] 53)).cell? ⟨wr.heap.size, 1, none⟩ = some (.int .i64 M) := by simp [World.cell?_alloc_new]
              have HB9 := Lib.hid (hb.out.alloc hb.out.size (.cells #[.int .i64 R, .int .i64 M] 53))
              clear hz hpk hg hu hv hres
              go_wp2_with fail
              go_quiet ((go_at_call 32; (first | exact quiet_at0 (fun W' => HGC.out W') | exact quiet_at (fun W' => HGC.out W'))))
              go_wp2_with fail
              go_quiet (fail)
              go_wp2_with fail
              go_roundw
              case rel => exact ⟨k + 1, v, by go_num, by omega, rfl, hnewA, hnewb, Lib.hid (by repeat (first | exact HB9.out | apply below_drewN))⟩
              case measure => simp [intOf]; omega
            · have hkk : k = ps.length := by omega
              have hAm : A = m := by rw [hA.out, hkk, List.take_length, HSYS.out.mod]
              subst hAm
              clear hkk
              go_wp2_with fail
              go_ret
              exact ⟨by simp <;> omega, hb.out⟩
  · have HODD := Lib.hid hodd
    clear hodd
    go_wp2_with fail
    refine (HP.out _ HRM1).mono ?_
    rintro e w2 ⟨pa, pl, pc, rfl, hb2, hpp⟩
    have HB2 := Lib.hid (HB1.out.trans (Below.mono hb2 HB1.out.size))
    have HRZ := Lib.hid (HRZ1.out.below hb2)
    have HRM := Lib.hid (HRM1.out.below hb2)
    rw [hpe] at hpp ⊢
    have hpq : pl = 0 := by
      rcases hpp with ⟨_, h⟩ | ⟨h, _⟩
      · exact h
      · cases h
    subst hpq
    clear hb2 hpp hpe HRZ1 HRM1 HB1
    have HB5 := HB2
    have HRZ5 := HRZ
    clear HB2 HRZ
    go_wp2_with fail
    go_loop [66] (fun vi => vi = .int .i64 0) (fun _ => 0)
    case atStart => rfl
    case round =>
      subst hrel
      have g1 : decide ((6 : Int) < zs.length) = false := by simp; omega
      have hany : zs.any rBad = false := by
        rw [List.any_eq_false]
        intro z hz
        rw [HALL.out z hz]; decide
      rw [hany] at HCR
      clear hany
      obtain ⟨ps, hps⟩ : ∃ ps, natP zs = ps := ⟨_, rfl⟩
      have HPS := Lib.hid hps
      have hpl : ps.length = zs.length := by rw [← hps, natP_len]
      rw [hps] at HODD
      clear hps
      go_wp2_with fail
      refine (HCR.out _ HRZ5).mono ?_
      rintro e1 w6 ⟨rfl, hb6⟩
      have HB6 := Lib.hid (HB5.out.trans (Below.mono hb6 HB5.out.size))
      have HRZ6 := Lib.hid (HRZ5.out.below hb6)
      clear hb6
      go_wp2_with fail
      refine (HK.out _ HRZ6).mono ?_
      rintro e1 w7 ⟨rfl, hb7⟩
      have HB7 := Lib.hid (HB6.out.trans (Below.mono hb7 HB6.out.size))
      clear hb7
      go_wp2_with fail
      go_loopw [12, 101] (fun vw vi wx => ∃ (k : Nat) (W : Int), vi = .int .i64 k ∧ k ≤ zs.length ∧ vw = .int .i64 W ∧ (W = 0 ∨ W = 4) ∧ Hid (W = 0 → agreeTo ps k) ∧ Hid (W = 4 → AnyOdds ps) ∧ Hid (Below w.heap.size w wx)) (fun _ vi _ => zs.length - (intOf vi).toNat)
      case atStart => exact ⟨0, 0, rfl, by omega, rfl, .inl rfl, Lib.hid (fun _ => by intro i j a b _ hi; omega), Lib.hid (fun h => by cases h), HB7⟩
      case round =>
        obtain ⟨k, W, rfl, hk, rfl, hW, hag, hod, hb⟩ := hrel
        by_cases hkl : k < zs.length
        · obtain ⟨z, hz⟩ : ∃ z, zs[k]? = some z := ⟨zs[k]'hkl, List.getElem?_eq_getElem _⟩
          obtain ⟨b3, o3, rfl, c1, c2⟩ := pair_cell (hR.out.below hb.out) hz
          obtain ⟨R, M, rfl, hM1, hM2, hRM, hpk⟩ := natP_get hz (HALL.out z (List.mem_of_getElem? hz))
          rw [HPS.out] at hpk
          have HPK := Lib.hid hpk
          dsimp only at c1 c2
          have hkc : (k : Int) ≤ cap := by omega
          have hk0 : (0 : Int) ≤ k := by omega
          have HB8 := Lib.hid (hb.out.alloc hb.out.size (.cells #[.int .i64 R, .int .i64 M] 53))
          obtain ⟨wa, hwa⟩ : ∃ wa, wr.alloc (.cells #[.int .i64 R, .int .i64 M] 53) = wa := ⟨_, rfl⟩
          have ca1 : Hid (wa.cell? ⟨wr.heap.size, 0, none⟩ = some (.int .i64 R)) := Lib.hid (by rw [← hwa]; simp [World.cell?_alloc_new])
          have ca2 : Hid (wa.cell? ⟨wr.heap.size, 1, none⟩ = some (.int .i64 M)) := Lib.hid (by rw [← hwa]; simp [World.cell?_alloc_new])
          rw [hwa] at HB8
          have HWA := Lib.hid hwa
          obtain ⟨ba, hba⟩ : ∃ ba, wr.heap.size = ba := ⟨_, rfl⟩
          rw [hba] at ca1 ca2
          have HBA := Lib.hid hba
          clear hz hpk hwa hba
          go_wp2_with fail
          rw [HWA.out, HBA.out]
          go_loopw [12, 110] (fun vw vj wy => ∃ (j : Nat) (W : Int), vj = .int .i64 j ∧ j ≤ k ∧ vw = .int .i64 W ∧ (W = 0 ∨ W = 4) ∧ Hid (W = 0 → agreeTo ps k ∧ ∀ i b, i < j → ps[i]? = some b → ¬ odds (R, M) b) ∧ Hid (W = 4 → AnyOdds ps) ∧ Hid (Below wa.heap.size wa wy)) (fun _ vj _ => k - (intOf vj).toNat)
          case atStart => exact ⟨0, W, rfl, by omega, rfl, hW, Lib.hid (fun h => ⟨hag.out h, fun i b hi => by omega⟩), hod, Below.refl _ _⟩
          case round =>
            obtain ⟨j, W, rfl, hj, rfl, hW, hag, hod, hby⟩ := hrel
            by_cases hjk : j < k
            · obtain ⟨y, hy⟩ : ∃ y, zs[j]? = some y := ⟨zs[j]'(by omega), List.getElem?_eq_getElem _⟩
              obtain ⟨b4, o4, hao, c3, c4⟩ := pair_cell ((hR.out.below HB8.out).below hby.out) hy
              obtain ⟨R2, M2, rfl, hN1, hN2, hRN, hpj⟩ := natP_get hy (HALL.out y (List.mem_of_getElem? hy))
              rw [HPS.out] at hpj
              have HPJ := Lib.hid hpj
              cases hao
              dsimp only at c3 c4
              have cA1 : (wr.alloc (.cells #[.int .i64 R2, .int .i64 M2] 53)).cell? ⟨ba, 0, none⟩ = some (.int .i64 R) := ((Below.alloc (Below.refl _ wr) (Nat.le_refl _) _).cell (World.block_lt_of_cell? wr _ ((hby.out.cell (World.block_lt_of_cell? wa _ ca1.out)).trans ca1.out))).trans ((hby.out.cell (World.block_lt_of_cell? wa _ ca1.out)).trans ca1.out)
              have cA2 : (wr.alloc (.cells #[.int .i64 R2, .int .i64 M2] 53)).cell? ⟨ba, 1, none⟩ = some (.int .i64 M) := ((Below.alloc (Below.refl _ wr) (Nat.le_refl _) _).cell (World.block_lt_of_cell? wr _ ((hby.out.cell (World.block_lt_of_cell? wa _ ca2.out)).trans ca2.out))).trans ((hby.out.cell (World.block_lt_of_cell? wa _ ca2.out)).trans ca2.out)
              have cB1 : (wr.alloc (.cells #[.int .i64 R2, .int .i64 M2] 53)).cell? ⟨wr.heap.size, 0, none⟩ = some (.int .i64 R2) := by simp [World.cell?_alloc_new]
              have cB2 : (wr.alloc (.cells #[.int .i64 R2, .int .i64 M2] 53)).cell? ⟨wr.heap.size, 1, none⟩ = some (.int .i64 M2) := by simp [World.cell?_alloc_new]
              have HB9 := Lib.hid (hby.out.alloc hby.out.size (.cells #[.int .i64 R2, .int .i64 M2] 53))
              clear hy hpj
              rcases hW with rfl | rfl
              · obtain ⟨g, hg⟩ : ∃ g, Nat.gcd M M2 = g := ⟨_, rfl⟩
                have hg0 : 1 ≤ g := by rw [← hg]; exact Nat.gcd_pos_of_pos_right _ (by omega)
                have hgM : g ≤ M2 := by rw [← hg]; exact Nat.gcd_le_right _ (by omega)
                have HGC := Lib.hid (fun W' => gcdOfN M M2 W' (by omega) (by omega))
                rw [hg] at HGC
                obtain ⟨d, hd⟩ : ∃ d, (R : Int) - R2 = d := ⟨_, rfl⟩
                have wd : IntKind.i64.wrap d = d := IntWalk.i64_in _ (by omega)
                obtain ⟨t, ht⟩ : ∃ t, Int.tmod d (g : Int) = t := ⟨_, rfl⟩
                have htb : -1000 ≤ t ∧ t ≤ 1000 := by
                  have h1 := Int.lt_tmod_of_pos d (b := (g : Int)) (by omega)
                  have h2 := Int.tmod_lt_of_pos d (b := (g : Int)) (by omega)
                  omega
                have wt : IntKind.i64.wrap t = t := IntWalk.i64_in _ (by omega)
                have hodt : Hid (odds (R, M) (R2, M2) ↔ t ≠ 0) := odds_tmod (by dsimp only; rw [hd, hg]; exact ht)
                have hg0I : ¬ ((g : Int) = 0) := by omega
                clear hg
                by_cases ht0 : t = 0
                · have dt : (t != 0) = false := by simpa using ht0
                  have hag2 : Hid (agreeTo ps k ∧ ∀ i b, i < j + 1 → ps[i]? = some b → ¬ odds (R, M) b) := by
                    obtain ⟨h1, h2⟩ := hag.out rfl
                    refine ⟨h1, fun i b hi hb => ?_⟩
                    rcases Nat.lt_or_ge i j with h | h
                    · exact h2 i b h hb
                    · obtain rfl : i = j := by omega
                      rw [HPJ.out] at hb; cases hb
                      intro ho
                      exact hodt.out.1 ho ht0
                  clear ht0
                  go_wp2_with fail
                  go_quiet ((go_at_call 32; (first | exact quiet_at0 (fun W' => HGC.out W') | exact quiet_at (fun W' => HGC.out W'))))
                  go_wp2_with fail
                  go_roundw
                  case rel => exact ⟨j + 1, 0, by go_num, by omega, rfl, .inl rfl, Lib.hid (fun _ => hag2.out), Lib.hid (fun h => by cases h), Lib.hid (below_drewN HB9.out _)⟩
                  case measure => simp [intOf]; omega
                · have dt : (t != 0) = true := by simpa using ht0
                  have hod2 : Hid (AnyOdds ps) := ⟨k, j, (R, M), (R2, M2), hjk, HPK.out, HPJ.out, hodt.out.2 ht0⟩
                  clear ht0
                  go_wp2_with fail
                  go_quiet ((go_at_call 32; (first | exact quiet_at0 (fun W' => HGC.out W') | exact quiet_at (fun W' => HGC.out W'))))
                  go_wp2_with fail
                  go_roundw
                  case rel => exact ⟨j + 1, 4, by go_num, by omega, rfl, .inr rfl, Lib.hid (fun h => by cases h), Lib.hid (fun _ => hod2.out), Lib.hid (below_drewN HB9.out _)⟩
                  case measure => simp [intOf]; omega
              · have hodx : Hid (AnyOdds ps) := hod.out rfl
                go_wp2_with fail
                go_quiet (fail)
                go_wp2_with fail
                go_roundw
                case rel => exact ⟨j + 1, 4, by go_num, by omega, rfl, .inr rfl, Lib.hid (fun h => by cases h), Lib.hid (fun _ => hodx.out), Lib.hid (below_drewN HB9.out _)⟩
                case measure => simp [intOf]; omega
            · have hag2 : Hid (W = 0 → agreeTo ps (k + 1)) := fun h => by
                obtain ⟨h1, h2⟩ := hag.out h
                exact h1.next HPK.out fun i b hi hb => h2 i b (by omega) hb
              have HB9 := Lib.hid (HB8.out.trans (Below.mono hby.out HB8.out.size))
              go_wp2_with fail
              go_roundw
              case rel => exact ⟨k + 1, W, by go_num, by omega, rfl, hW, hag2, hod, HB9⟩
              case measure => simp [intOf]; omega
        · have hW4 : W = 4 := by
            rcases hW with h | h
            · exact ((hag.out h).no (by omega) HODD.out).elim
            · exact h
          subst hW4
          go_wp2_with fail
          go_ret
          exact ⟨by simp, hb.out⟩

set_option maxRecDepth 100000 in
set_option maxHeartbeats 8000000 in
theorem chineseSays_six_e (ao : Option Addr) (cap : Nat) (zs : List (Int × Int)) (n : Int) (bo : Option Addr) (cap2 : Nat) (ms : List Int) (w : World) (h1 : PairsIn .i64 .i64 w ao zs.length zs) (hco : CapOk ao zs.length cap) (h2 : IntsIn .i64 w bo ms.length ms) (hnb : n ≤ 9223372036854775807) (hz : chinE zs ≠ 0) (hn : ¬ n < 0) (h6 : 6 < ms.length) :
    Calls Try.prog 5 #[.slice ao zs.length cap, .int .i64 n, .slice bo ms.length cap2] w fun e w' => e = .returned (.bool true) ∧ Below w.heap.size w w' := by
  have hl1 := h1.2.1
  have hl2 := h2.2.1
  have hcp : zs.length ≤ cap := hco.2.1
  have hR := Lib.hid h1.2.2.2
  have hR2 := Lib.hid h2.2.2.2
  have hcm : (cap : Int) ≤ 9223372036854775807 := by have := hco.2.2; omega
  have HP := Lib.hid (fun W hr => chinese_Parts n ms bo cap2 W hnb hl2 hr)
  have HK := Lib.hid (fun W hr => chinese_Check zs ao cap W hl1 hr)
  have HCR := Lib.hid (fun W hr => containsFunc_rest zs ao cap W hl1 hr)
  have HCM := Lib.hid (fun W hr => containsFunc_mods ms bo cap2 W hl2 hr)
  have HZ := Lib.hid hz
  clear hco
  have f1 : decide (n < 0) = false := decide_eq_false hn
  have f2 : decide ((6 : Int) < ms.length) = true := by simp; omega
  have hpe : partsE n ms = 2 := by unfold partsE; rw [if_neg hn, if_pos h6]
  clear h1 h2 hz
  go_enter Try.func5, Try.ntmps5
  go_wp2_with fail
  refine (chinese_Join_bad zs ao cap w hl1 HZ.out hR).mono ?_
  rintro e w1 ⟨rfl, hb1⟩
  have HB1 := Lib.hid hb1
  have HRZ1 := Lib.hid (hR.out.below hb1)
  have HRM1 := Lib.hid (hR2.out.below hb1)
  clear hb1
  go_wp2_with fail
  refine (HP.out _ HRM1).mono ?_
  rintro e w2 ⟨pa, pl, pc, rfl, hb2, hpp⟩
  have HB2 := Lib.hid (HB1.out.trans (Below.mono hb2 HB1.out.size))
  have HRZ := Lib.hid (HRZ1.out.below hb2)
  have HRM := Lib.hid (HRM1.out.below hb2)
  rw [hpe] at hpp ⊢
  have hpq : pl = 0 := by
    rcases hpp with ⟨_, h⟩ | ⟨h, _⟩
    · exact h
    · cases h
  subst hpq
  clear hb2 hpp hpe HRZ1 HRM1 HB1
  obtain ⟨E, hE⟩ : ∃ E, chinE zs = E := ⟨_, rfl⟩
  have HE := Lib.hid hE
  rw [hE] at HK ⊢
  have hE0 : (E != 0) = true := by have := HZ.out; rw [hE] at this; simpa using this
  have hE1 : (E == 0) = false := by have := HZ.out; rw [hE] at this; simpa using this
  clear hE
  have HB5 := HB2
  have HRZ5 := HRZ
  clear HB2 HRZ
  go_wp2_with fail
  go_loop [66] (fun vi => vi = .int .i64 0) (fun _ => 0)
  case atStart => rfl
  case round =>
    subst hrel
    by_cases h6 : 6 < zs.length
    · have g1 : decide ((6 : Int) < zs.length) = true := by simp; omega
      have hE2 : E = 2 := by rw [← HE.out]; unfold chinE; rw [if_pos h6]
      subst hE2
      go_wp2_with fail
      refine (HK.out _ HRZ5).mono ?_
      rintro e1 w7 ⟨rfl, hb7⟩
      have HB7 := Lib.hid (HB5.out.trans (Below.mono hb7 HB5.out.size))
      clear hb7
      go_wp2_with fail
      go_loopw [12, 101] (fun vw vi wx => vw = .int .i64 2 ∧ ∃ k : Nat, vi = .int .i64 k ∧ k ≤ zs.length ∧ Hid (Below w.heap.size w wx)) (fun _ vi _ => zs.length - (intOf vi).toNat)
      case atStart => exact ⟨rfl, 0, rfl, by omega, HB7⟩
      case round =>
        obtain ⟨rfl, k, rfl, hk, hb⟩ := hrel
        by_cases hkl : k < zs.length
        · obtain ⟨z, hz⟩ : ∃ z, zs[k]? = some z := ⟨zs[k]'hkl, List.getElem?_eq_getElem _⟩
          obtain ⟨b3, o3, rfl, c1, c2⟩ := pair_cell (hR.out.below hb.out) hz
          have hkc : (k : Int) ≤ cap := by omega
          have hk0 : (0 : Int) ≤ k := by omega
          have HB8 := Lib.hid (hb.out.alloc hb.out.size (.cells #[.int .i64 z.1, .int .i64 z.2] 53))
          clear hz
          go_wp2_with fail
          go_loopw [12, 110] (fun vw vj wy => vw = .int .i64 2 ∧ ∃ j : Nat, vj = .int .i64 j ∧ j ≤ k ∧ Hid (Below w.heap.size w wy)) (fun _ vj _ => k - (intOf vj).toNat)
          case atStart => exact ⟨rfl, 0, rfl, by omega, HB8⟩
          case round =>
            obtain ⟨rfl, j, rfl, hj, hb⟩ := hrel
            by_cases hjk : j < k
            · obtain ⟨y, hy⟩ : ∃ y, zs[j]? = some y := ⟨zs[j]'(by omega), List.getElem?_eq_getElem _⟩
              obtain ⟨b4, o4, hao, c3, c4⟩ := pair_cell (hR.out.below hb.out) hy
              cases hao
              have HB9 := Lib.hid (hb.out.alloc hb.out.size (.cells #[.int .i64 y.1, .int .i64 y.2] 53))
              clear hy
              go_wp2_with fail
              go_quiet (fail)
              go_wp2_with fail
              go_roundw
              case rel => exact ⟨rfl, j + 1, by go_num, by omega, Lib.hid (below_drewN HB9.out _)⟩
              case measure => simp [intOf]; omega
            · go_wp2_with fail
              go_roundw
              case rel => exact ⟨rfl, k + 1, by go_num, by omega, hb⟩
              case measure => simp [intOf]; omega
        · go_wp2_with fail
          go_ret
          exact ⟨by simp, hb.out⟩
    · have g1 : decide ((6 : Int) < zs.length) = false := by simp; omega
      have hany : zs.any rBad = true := by
        have h1 := HE.out
        have h2 := HZ.out
        unfold chinE at h1 h2
        rw [if_neg h6] at h2
        cases h : zs.any rBad
        · rw [h] at h2; exact absurd rfl h2
        · rfl
      have hE2 : E = 1 := by rw [← HE.out]; unfold chinE; rw [if_neg h6, if_pos hany]
      subst hE2
      rw [hany] at HCR
      clear hany
      go_wp2_with fail
      refine (HCR.out _ HRZ5).mono ?_
      rintro e1 w6 ⟨rfl, hb6⟩
      have HB6 := Lib.hid (HB5.out.trans (Below.mono hb6 HB5.out.size))
      have HRZ6 := Lib.hid (HRZ5.out.below hb6)
      clear hb6
      go_wp2_with fail
      refine (HK.out _ HRZ6).mono ?_
      rintro e1 w7 ⟨rfl, hb7⟩
      have HB7 := Lib.hid (HB6.out.trans (Below.mono hb7 HB6.out.size))
      clear hb7
      go_wp2_with fail
      go_loopw [12, 101] (fun vw vi wx => vw = .int .i64 1 ∧ ∃ k : Nat, vi = .int .i64 k ∧ k ≤ zs.length ∧ Hid (Below w.heap.size w wx)) (fun _ vi _ => zs.length - (intOf vi).toNat)
      case atStart => exact ⟨rfl, 0, rfl, by omega, HB7⟩
      case round =>
        obtain ⟨rfl, k, rfl, hk, hb⟩ := hrel
        by_cases hkl : k < zs.length
        · obtain ⟨z, hz⟩ : ∃ z, zs[k]? = some z := ⟨zs[k]'hkl, List.getElem?_eq_getElem _⟩
          obtain ⟨b3, o3, rfl, c1, c2⟩ := pair_cell (hR.out.below hb.out) hz
          have hkc : (k : Int) ≤ cap := by omega
          have hk0 : (0 : Int) ≤ k := by omega
          have HB8 := Lib.hid (hb.out.alloc hb.out.size (.cells #[.int .i64 z.1, .int .i64 z.2] 53))
          clear hz
          go_wp2_with fail
          go_loopw [12, 110] (fun vw vj wy => vw = .int .i64 1 ∧ ∃ j : Nat, vj = .int .i64 j ∧ j ≤ k ∧ Hid (Below w.heap.size w wy)) (fun _ vj _ => k - (intOf vj).toNat)
          case atStart => exact ⟨rfl, 0, rfl, by omega, HB8⟩
          case round =>
            obtain ⟨rfl, j, rfl, hj, hb⟩ := hrel
            by_cases hjk : j < k
            · obtain ⟨y, hy⟩ : ∃ y, zs[j]? = some y := ⟨zs[j]'(by omega), List.getElem?_eq_getElem _⟩
              obtain ⟨b4, o4, hao, c3, c4⟩ := pair_cell (hR.out.below hb.out) hy
              cases hao
              have HB9 := Lib.hid (hb.out.alloc hb.out.size (.cells #[.int .i64 y.1, .int .i64 y.2] 53))
              clear hy
              go_wp2_with fail
              go_quiet (fail)
              go_wp2_with fail
              go_roundw
              case rel => exact ⟨rfl, j + 1, by go_num, by omega, Lib.hid (below_drewN HB9.out _)⟩
              case measure => simp [intOf]; omega
            · go_wp2_with fail
              go_roundw
              case rel => exact ⟨rfl, k + 1, by go_num, by omega, hb⟩
              case measure => simp [intOf]; omega
        · go_wp2_with fail
          go_ret
          exact ⟨by simp, hb.out⟩

set_option maxRecDepth 100000 in
set_option maxHeartbeats 8000000 in
theorem chineseSays_six_z (ao : Option Addr) (cap : Nat) (zs : List (Int × Int)) (n : Int) (bo : Option Addr) (cap2 : Nat) (ms : List Int) (w : World) (h1 : PairsIn .i64 .i64 w ao zs.length zs) (hco : CapOk ao zs.length cap) (h2 : IntsIn .i64 w bo ms.length ms) (hnb : n ≤ 9223372036854775807) (hz : chinE zs = 0) (hn : ¬ n < 0) (h6 : 6 < ms.length) :
    Calls Try.prog 5 #[.slice ao zs.length cap, .int .i64 n, .slice bo ms.length cap2] w fun e w' => e = .returned (.bool true) ∧ Below w.heap.size w w' := by
  have hl1 := h1.2.1
  have hl2 := h2.2.1
  have hcp : zs.length ≤ cap := hco.2.1
  have hR := Lib.hid h1.2.2.2
  have hR2 := Lib.hid h2.2.2.2
  have hcm : (cap : Int) ≤ 9223372036854775807 := by have := hco.2.2; omega
  have HP := Lib.hid (fun W hr => chinese_Parts n ms bo cap2 W hnb hl2 hr)
  have HK := Lib.hid (fun W hr => chinese_Check zs ao cap W hl1 hr)
  have HCR := Lib.hid (fun W hr => containsFunc_rest zs ao cap W hl1 hr)
  have HCM := Lib.hid (fun W hr => containsFunc_mods ms bo cap2 W hl2 hr)
  have HZ := Lib.hid hz
  clear hco
  have f1 : decide (n < 0) = false := decide_eq_false hn
  have f2 : decide ((6 : Int) < ms.length) = true := by simp; omega
  have hpe : partsE n ms = 2 := by unfold partsE; rw [if_neg hn, if_pos h6]
  clear h1 h2 hz
  go_enter Try.func5, Try.ntmps5
  go_wp2_with fail
  refine (chinese_Join zs ao cap w HZ.out hR).mono ?_
  rintro e w1 ⟨hb1, hjo⟩
  have HB1 := Lib.hid hb1
  have HRZ1 := Lib.hid (hR.out.below hb1)
  have HRM1 := Lib.hid (hR2.out.below hb1)
  have hch := chin_ok HZ.out
  have HALL := Lib.hid hch.2
  have h6l := hch.1
  rw [HZ.out] at HK
  clear hb1 hch
  rcases hjo with ⟨x, m, hsys, hm18, rfl⟩ | ⟨hodd, rfl⟩
  · have HSYS := Lib.hid hsys
    clear hsys
    go_wp2_with fail
    refine (HP.out _ HRM1).mono ?_
    rintro e w2 ⟨pa, pl, pc, rfl, hb2, hpp⟩
    have HB2 := Lib.hid (HB1.out.trans (Below.mono hb2 HB1.out.size))
    have HRZ := Lib.hid (HRZ1.out.below hb2)
    have HRM := Lib.hid (HRM1.out.below hb2)
    rw [hpe] at hpp ⊢
    have hpq : pl = 0 := by
      rcases hpp with ⟨_, h⟩ | ⟨h, _⟩
      · exact h
      · cases h
    subst hpq
    clear hb2 hpp hpe HRZ1 HRM1 HB1
    have HB5 := HB2
    have HRZ5 := HRZ
    clear HB2 HRZ
    go_wp2_with fail
    go_loop [66] (fun vi => vi = .int .i64 0) (fun _ => 0)
    case atStart => rfl
    case round =>
      subst hrel
      have g1 : decide ((6 : Int) < zs.length) = false := by simp; omega
      have hany : zs.any rBad = false := by
        rw [List.any_eq_false]
        intro z hz
        rw [HALL.out z hz]; decide
      rw [hany] at HCR
      clear hany
      obtain ⟨ps, hps⟩ : ∃ ps, natP zs = ps := ⟨_, rfl⟩
      have HPS := Lib.hid hps
      have hpl : ps.length = zs.length := by rw [← hps, natP_len]
      rw [hps] at HSYS
      clear hps
      go_wp2_with fail
      refine (HCR.out _ HRZ5).mono ?_
      rintro e1 w6 ⟨rfl, hb6⟩
      have HB6 := Lib.hid (HB5.out.trans (Below.mono hb6 HB5.out.size))
      have HRZ6 := Lib.hid (HRZ5.out.below hb6)
      clear hb6
      go_wp2_with fail
      refine (HK.out _ HRZ6).mono ?_
      rintro e1 w7 ⟨rfl, hb7⟩
      have HB7 := Lib.hid (HB6.out.trans (Below.mono hb7 HB6.out.size))
      clear hb7
      go_wp2_with fail
      go_loopw [12, 101] (fun vw vi wx => ∃ (k : Nat) (W : Int), vi = .int .i64 k ∧ k ≤ zs.length ∧ vw = .int .i64 W ∧ (W = 0 ∨ W = 4) ∧ Hid (W = 0 → agreeTo ps k) ∧ Hid (W = 4 → AnyOdds ps) ∧ Hid (Below w.heap.size w wx)) (fun _ vi _ => zs.length - (intOf vi).toNat)
      case atStart => exact ⟨0, 0, rfl, by omega, rfl, .inl rfl, Lib.hid (fun _ => by intro i j a b _ hi; omega), Lib.hid (fun h => by cases h), HB7⟩
      case round =>
        obtain ⟨k, W, rfl, hk, rfl, hW, hag, hod, hb⟩ := hrel
        by_cases hkl : k < zs.length
        · obtain ⟨z, hz⟩ : ∃ z, zs[k]? = some z := ⟨zs[k]'hkl, List.getElem?_eq_getElem _⟩
          obtain ⟨b3, o3, rfl, c1, c2⟩ := pair_cell (hR.out.below hb.out) hz
          obtain ⟨R, M, rfl, hM1, hM2, hRM, hpk⟩ := natP_get hz (HALL.out z (List.mem_of_getElem? hz))
          rw [HPS.out] at hpk
          have HPK := Lib.hid hpk
          dsimp only at c1 c2
          have hkc : (k : Int) ≤ cap := by omega
          have hk0 : (0 : Int) ≤ k := by omega
          have HB8 := Lib.hid (hb.out.alloc hb.out.size (.cells #[.int .i64 R, .int .i64 M] 53))
          obtain ⟨wa, hwa⟩ : ∃ wa, wr.alloc (.cells #[.int .i64 R, .int .i64 M] 53) = wa := ⟨_, rfl⟩
          have ca1 : Hid (wa.cell? ⟨wr.heap.size, 0, none⟩ = some (.int .i64 R)) := Lib.hid (by rw [← hwa]; simp [World.cell?_alloc_new])
          have ca2 : Hid (wa.cell? ⟨wr.heap.size, 1, none⟩ = some (.int .i64 M)) := Lib.hid (by rw [← hwa]; simp [World.cell?_alloc_new])
          rw [hwa] at HB8
          have HWA := Lib.hid hwa
          obtain ⟨ba, hba⟩ : ∃ ba, wr.heap.size = ba := ⟨_, rfl⟩
          rw [hba] at ca1 ca2
          have HBA := Lib.hid hba
          clear hz hpk hwa hba
          go_wp2_with fail
          rw [HWA.out, HBA.out]
          go_loopw [12, 110] (fun vw vj wy => ∃ (j : Nat) (W : Int), vj = .int .i64 j ∧ j ≤ k ∧ vw = .int .i64 W ∧ (W = 0 ∨ W = 4) ∧ Hid (W = 0 → agreeTo ps k ∧ ∀ i b, i < j → ps[i]? = some b → ¬ odds (R, M) b) ∧ Hid (W = 4 → AnyOdds ps) ∧ Hid (Below wa.heap.size wa wy)) (fun _ vj _ => k - (intOf vj).toNat)
          case atStart => exact ⟨0, W, rfl, by omega, rfl, hW, Lib.hid (fun h => ⟨hag.out h, fun i b hi => by omega⟩), hod, Below.refl _ _⟩
          case round =>
            obtain ⟨j, W, rfl, hj, rfl, hW, hag, hod, hby⟩ := hrel
            by_cases hjk : j < k
            · obtain ⟨y, hy⟩ : ∃ y, zs[j]? = some y := ⟨zs[j]'(by omega), List.getElem?_eq_getElem _⟩
              obtain ⟨b4, o4, hao, c3, c4⟩ := pair_cell ((hR.out.below HB8.out).below hby.out) hy
              obtain ⟨R2, M2, rfl, hN1, hN2, hRN, hpj⟩ := natP_get hy (HALL.out y (List.mem_of_getElem? hy))
              rw [HPS.out] at hpj
              have HPJ := Lib.hid hpj
              cases hao
              dsimp only at c3 c4
              have cA1 : (wr.alloc (.cells #[.int .i64 R2, .int .i64 M2] 53)).cell? ⟨ba, 0, none⟩ = some (.int .i64 R) := ((Below.alloc (Below.refl _ wr) (Nat.le_refl _) _).cell (World.block_lt_of_cell? wr _ ((hby.out.cell (World.block_lt_of_cell? wa _ ca1.out)).trans ca1.out))).trans ((hby.out.cell (World.block_lt_of_cell? wa _ ca1.out)).trans ca1.out)
              have cA2 : (wr.alloc (.cells #[.int .i64 R2, .int .i64 M2] 53)).cell? ⟨ba, 1, none⟩ = some (.int .i64 M) := ((Below.alloc (Below.refl _ wr) (Nat.le_refl _) _).cell (World.block_lt_of_cell? wr _ ((hby.out.cell (World.block_lt_of_cell? wa _ ca2.out)).trans ca2.out))).trans ((hby.out.cell (World.block_lt_of_cell? wa _ ca2.out)).trans ca2.out)
              have cB1 : (wr.alloc (.cells #[.int .i64 R2, .int .i64 M2] 53)).cell? ⟨wr.heap.size, 0, none⟩ = some (.int .i64 R2) := by simp [World.cell?_alloc_new]
              have cB2 : (wr.alloc (.cells #[.int .i64 R2, .int .i64 M2] 53)).cell? ⟨wr.heap.size, 1, none⟩ = some (.int .i64 M2) := by simp [World.cell?_alloc_new]
              have HB9 := Lib.hid (hby.out.alloc hby.out.size (.cells #[.int .i64 R2, .int .i64 M2] 53))
              clear hy hpj
              rcases hW with rfl | rfl
              · obtain ⟨g, hg⟩ : ∃ g, Nat.gcd M M2 = g := ⟨_, rfl⟩
                have hg0 : 1 ≤ g := by rw [← hg]; exact Nat.gcd_pos_of_pos_right _ (by omega)
                have hgM : g ≤ M2 := by rw [← hg]; exact Nat.gcd_le_right _ (by omega)
                have HGC := Lib.hid (fun W' => gcdOfN M M2 W' (by omega) (by omega))
                rw [hg] at HGC
                obtain ⟨d, hd⟩ : ∃ d, (R : Int) - R2 = d := ⟨_, rfl⟩
                have wd : IntKind.i64.wrap d = d := IntWalk.i64_in _ (by omega)
                obtain ⟨t, ht⟩ : ∃ t, Int.tmod d (g : Int) = t := ⟨_, rfl⟩
                have htb : -1000 ≤ t ∧ t ≤ 1000 := by
                  have h1 := Int.lt_tmod_of_pos d (b := (g : Int)) (by omega)
                  have h2 := Int.tmod_lt_of_pos d (b := (g : Int)) (by omega)
                  omega
                have wt : IntKind.i64.wrap t = t := IntWalk.i64_in _ (by omega)
                have hodt : Hid (odds (R, M) (R2, M2) ↔ t ≠ 0) := odds_tmod (by dsimp only; rw [hd, hg]; exact ht)
                have hg0I : ¬ ((g : Int) = 0) := by omega
                clear hg
                by_cases ht0 : t = 0
                · have dt : (t != 0) = false := by simpa using ht0
                  have hag2 : Hid (agreeTo ps k ∧ ∀ i b, i < j + 1 → ps[i]? = some b → ¬ odds (R, M) b) := by
                    obtain ⟨h1, h2⟩ := hag.out rfl
                    refine ⟨h1, fun i b hi hb => ?_⟩
                    rcases Nat.lt_or_ge i j with h | h
                    · exact h2 i b h hb
                    · obtain rfl : i = j := by omega
                      rw [HPJ.out] at hb; cases hb
                      intro ho
                      exact hodt.out.1 ho ht0
                  clear ht0
                  go_wp2_with fail
                  go_quiet ((go_at_call 32; (first | exact quiet_at0 (fun W' => HGC.out W') | exact quiet_at (fun W' => HGC.out W'))))
                  go_wp2_with fail
                  go_roundw
                  case rel => exact ⟨j + 1, 0, by go_num, by omega, rfl, .inl rfl, Lib.hid (fun _ => hag2.out), Lib.hid (fun h => by cases h), Lib.hid (below_drewN HB9.out _)⟩
                  case measure => simp [intOf]; omega
                · have dt : (t != 0) = true := by simpa using ht0
                  have hod2 : Hid (AnyOdds ps) := ⟨k, j, (R, M), (R2, M2), hjk, HPK.out, HPJ.out, hodt.out.2 ht0⟩
                  clear ht0
                  go_wp2_with fail
                  go_quiet ((go_at_call 32; (first | exact quiet_at0 (fun W' => HGC.out W') | exact quiet_at (fun W' => HGC.out W'))))
                  go_wp2_with fail
                  go_roundw
                  case rel => exact ⟨j + 1, 4, by go_num, by omega, rfl, .inr rfl, Lib.hid (fun h => by cases h), Lib.hid (fun _ => hod2.out), Lib.hid (below_drewN HB9.out _)⟩
                  case measure => simp [intOf]; omega
              · have hodx : Hid (AnyOdds ps) := hod.out rfl
                go_wp2_with fail
                go_quiet (fail)
                go_wp2_with fail
                go_roundw
                case rel => exact ⟨j + 1, 4, by go_num, by omega, rfl, .inr rfl, Lib.hid (fun h => by cases h), Lib.hid (fun _ => hodx.out), Lib.hid (below_drewN HB9.out _)⟩
                case measure => simp [intOf]; omega
            · have hag2 : Hid (W = 0 → agreeTo ps (k + 1)) := fun h => by
                obtain ⟨h1, h2⟩ := hag.out h
                exact h1.next HPK.out fun i b hi hb => h2 i b (by omega) hb
              have HB9 := Lib.hid (HB8.out.trans (Below.mono hby.out HB8.out.size))
              go_wp2_with fail
              go_roundw
              case rel => exact ⟨k + 1, W, by go_num, by omega, rfl, hW, hag2, hod, HB9⟩
              case measure => simp [intOf]; omega
        · have hW0 : W = 0 := by
            rcases hW with h | h
            · exact h
            · exact (HSYS.out.not_odds (hod.out h)).elim
          subst hW0
          have hxm := HSYS.out.lt
          go_wp2_with fail
          go_loopw [15, 147] (fun va vi wx => ∃ k A : Nat, vi = .int .i64 k ∧ k ≤ zs.length ∧ va = .int .i64 A ∧ Hid (A = lcmF (ps.take k)) ∧ Hid (A ≤ 1000 ^ k) ∧ Hid (Below w.heap.size w wx)) (fun _ vi _ => zs.length - (intOf vi).toNat)
          case atStart => exact ⟨0, 1, rfl, by omega, rfl, rfl, Lib.hid (Nat.le_refl _), hb⟩
          case round =>
            obtain ⟨k, A, rfl, hk, rfl, hA, hAb, hb⟩ := hrel
            by_cases hkl : k < zs.length
            · obtain ⟨z, hz⟩ : ∃ z, zs[k]? = some z := ⟨zs[k]'hkl, List.getElem?_eq_getElem _⟩
              obtain ⟨b3, o3, rfl, c1, c2⟩ := pair_cell (hR.out.below hb.out) hz
              obtain ⟨R, M, rfl, hM1, hM2, hRM, hpk⟩ := natP_get hz (HALL.out z (List.mem_of_getElem? hz))
              rw [HPS.out] at hpk
              dsimp only at c1 c2
              have hA18 : A ≤ 1000000000000000 := Nat.le_trans hAb.out (Nat.le_trans (Nat.pow_le_pow_right (by omega) (show k ≤ 5 by omega)) (by decide))
              obtain ⟨g, hg⟩ : ∃ g, Nat.gcd A M = g := ⟨_, rfl⟩
              have hg0 : 1 ≤ g := by rw [← hg]; exact Nat.gcd_pos_of_pos_right _ (by omega)
              have HGC := Lib.hid (fun W' => gcdOfN A M W' (by omega) (by omega))
              rw [hg] at HGC
              obtain ⟨u, hu⟩ : ∃ u, A / g = u := ⟨_, rfl⟩
              have hu18 : u ≤ A := by rw [← hu]; exact Nat.div_le_self _ _
              have eu : (A : Int) / (g : Int) = (u : Int) := by rw [← hu]; push_cast; rfl
              obtain ⟨v, hv⟩ : ∃ v, u * M = v := ⟨_, rfl⟩
              have hvb : v ≤ A * 1000 := by rw [← hv]; exact Nat.mul_le_mul hu18 hM2
              have ev : (u : Int) * (M : Int) = (v : Int) := by rw [← hv]; push_cast; rfl
              have wu : IntKind.i64.wrap (u : Int) = (u : Int) := IntWalk.i64_in _ (by omega)
              have wv : IntKind.i64.wrap (v : Int) = (v : Int) := IntWalk.i64_in _ (by omega)
              have hnewA : Hid (v = lcmF (ps.take (k + 1))) := by
                show _ = _
                rw [List.take_add_one, hpk]
                show _ = lcmF (ps.take k ++ [(R, M)])
                rw [lcmF_snoc, ← hA.out, ← lcm_quo', hg, hu, hv]
              have hnewb : Hid (v ≤ 1000 ^ (k + 1)) := by
                show _ ≤ _
                rw [Nat.pow_succ]
                exact Nat.le_trans hvb (Nat.mul_le_mul_right _ hAb.out)
              have hres : x % M = R := HSYS.out.res (R, M) (List.mem_of_getElem? hpk)
              have er : (x : Int) % (M : Int) = (R : Int) := by rw [← hres]; push_cast; rfl
              have eR : ((R : Int) != (R : Int)) = false := by simp
              have wR : IntKind.i64.wrap (R : Int) = (R : Int) := IntWalk.i64_in _ (by omega)
              have hg0I : ¬ ((g : Int) = 0) := by omega
              have hM0I : ¬ ((M : Int) = 0) := by omega
              have cb1 : (wr.alloc (.cells #[.int .i64 R, .int .i64 M] 53)).cell? ⟨wr.heap.size, 0, none⟩ = some (.int .i64 R) := by simp [World.cell?_alloc_new]
              have cb2 : (wr.alloc (.cells #[.int .i64 R, .int .i64 M] 53)).cell? ⟨wr.heap.size, 1, none⟩ = some (.int .i64 M) := by simp [World.cell?_alloc_new]
              have HB9 := Lib.hid (hb.out.alloc hb.out.size (.cells #[.int .i64 R, .int .i64 M] 53))
              clear hz hpk hg hu hv hres
              go_wp2_with fail
              go_quiet ((go_at_call 32; (first | exact quiet_at0 (fun W' => HGC.out W') | exact quiet_at (fun W' => HGC.out W'))))
              go_wp2_with fail
              go_quiet (fail)
              go_wp2_with fail
              go_roundw
              case rel => exact ⟨k + 1, v, by go_num, by omega, rfl, hnewA, hnewb, Lib.hid (by repeat (first | exact HB9.out | apply below_drewN))⟩
              case measure => simp [intOf]; omega
            · have hkk : k = ps.length := by omega
              have hAm : A = m := by rw [hA.out, hkk, List.take_length, HSYS.out.mod]
              subst hAm
              clear hkk
              go_wp2_with fail
              go_ret
              exact ⟨by simp <;> omega, hb.out⟩
  · have HODD := Lib.hid hodd
    clear hodd
    go_wp2_with fail
    refine (HP.out _ HRM1).mono ?_
    rintro e w2 ⟨pa, pl, pc, rfl, hb2, hpp⟩
    have HB2 := Lib.hid (HB1.out.trans (Below.mono hb2 HB1.out.size))
    have HRZ := Lib.hid (HRZ1.out.below hb2)
    have HRM := Lib.hid (HRM1.out.below hb2)
    rw [hpe] at hpp ⊢
    have hpq : pl = 0 := by
      rcases hpp with ⟨_, h⟩ | ⟨h, _⟩
      · exact h
      · cases h
    subst hpq
    clear hb2 hpp hpe HRZ1 HRM1 HB1
    have HB5 := HB2
    have HRZ5 := HRZ
    clear HB2 HRZ
    go_wp2_with fail
    go_loop [66] (fun vi => vi = .int .i64 0) (fun _ => 0)
    case atStart => rfl
    case round =>
      subst hrel
      have g1 : decide ((6 : Int) < zs.length) = false := by simp; omega
      have hany : zs.any rBad = false := by
        rw [List.any_eq_false]
        intro z hz
        rw [HALL.out z hz]; decide
      rw [hany] at HCR
      clear hany
      obtain ⟨ps, hps⟩ : ∃ ps, natP zs = ps := ⟨_, rfl⟩
      have HPS := Lib.hid hps
      have hpl : ps.length = zs.length := by rw [← hps, natP_len]
      rw [hps] at HODD
      clear hps
      go_wp2_with fail
      refine (HCR.out _ HRZ5).mono ?_
      rintro e1 w6 ⟨rfl, hb6⟩
      have HB6 := Lib.hid (HB5.out.trans (Below.mono hb6 HB5.out.size))
      have HRZ6 := Lib.hid (HRZ5.out.below hb6)
      clear hb6
      go_wp2_with fail
      refine (HK.out _ HRZ6).mono ?_
      rintro e1 w7 ⟨rfl, hb7⟩
      have HB7 := Lib.hid (HB6.out.trans (Below.mono hb7 HB6.out.size))
      clear hb7
      go_wp2_with fail
      go_loopw [12, 101] (fun vw vi wx => ∃ (k : Nat) (W : Int), vi = .int .i64 k ∧ k ≤ zs.length ∧ vw = .int .i64 W ∧ (W = 0 ∨ W = 4) ∧ Hid (W = 0 → agreeTo ps k) ∧ Hid (W = 4 → AnyOdds ps) ∧ Hid (Below w.heap.size w wx)) (fun _ vi _ => zs.length - (intOf vi).toNat)
      case atStart => exact ⟨0, 0, rfl, by omega, rfl, .inl rfl, Lib.hid (fun _ => by intro i j a b _ hi; omega), Lib.hid (fun h => by cases h), HB7⟩
      case round =>
        obtain ⟨k, W, rfl, hk, rfl, hW, hag, hod, hb⟩ := hrel
        by_cases hkl : k < zs.length
        · obtain ⟨z, hz⟩ : ∃ z, zs[k]? = some z := ⟨zs[k]'hkl, List.getElem?_eq_getElem _⟩
          obtain ⟨b3, o3, rfl, c1, c2⟩ := pair_cell (hR.out.below hb.out) hz
          obtain ⟨R, M, rfl, hM1, hM2, hRM, hpk⟩ := natP_get hz (HALL.out z (List.mem_of_getElem? hz))
          rw [HPS.out] at hpk
          have HPK := Lib.hid hpk
          dsimp only at c1 c2
          have hkc : (k : Int) ≤ cap := by omega
          have hk0 : (0 : Int) ≤ k := by omega
          have HB8 := Lib.hid (hb.out.alloc hb.out.size (.cells #[.int .i64 R, .int .i64 M] 53))
          obtain ⟨wa, hwa⟩ : ∃ wa, wr.alloc (.cells #[.int .i64 R, .int .i64 M] 53) = wa := ⟨_, rfl⟩
          have ca1 : Hid (wa.cell? ⟨wr.heap.size, 0, none⟩ = some (.int .i64 R)) := Lib.hid (by rw [← hwa]; simp [World.cell?_alloc_new])
          have ca2 : Hid (wa.cell? ⟨wr.heap.size, 1, none⟩ = some (.int .i64 M)) := Lib.hid (by rw [← hwa]; simp [World.cell?_alloc_new])
          rw [hwa] at HB8
          have HWA := Lib.hid hwa
          obtain ⟨ba, hba⟩ : ∃ ba, wr.heap.size = ba := ⟨_, rfl⟩
          rw [hba] at ca1 ca2
          have HBA := Lib.hid hba
          clear hz hpk hwa hba
          go_wp2_with fail
          rw [HWA.out, HBA.out]
          go_loopw [12, 110] (fun vw vj wy => ∃ (j : Nat) (W : Int), vj = .int .i64 j ∧ j ≤ k ∧ vw = .int .i64 W ∧ (W = 0 ∨ W = 4) ∧ Hid (W = 0 → agreeTo ps k ∧ ∀ i b, i < j → ps[i]? = some b → ¬ odds (R, M) b) ∧ Hid (W = 4 → AnyOdds ps) ∧ Hid (Below wa.heap.size wa wy)) (fun _ vj _ => k - (intOf vj).toNat)
          case atStart => exact ⟨0, W, rfl, by omega, rfl, hW, Lib.hid (fun h => ⟨hag.out h, fun i b hi => by omega⟩), hod, Below.refl _ _⟩
          case round =>
            obtain ⟨j, W, rfl, hj, rfl, hW, hag, hod, hby⟩ := hrel
            by_cases hjk : j < k
            · obtain ⟨y, hy⟩ : ∃ y, zs[j]? = some y := ⟨zs[j]'(by omega), List.getElem?_eq_getElem _⟩
              obtain ⟨b4, o4, hao, c3, c4⟩ := pair_cell ((hR.out.below HB8.out).below hby.out) hy
              obtain ⟨R2, M2, rfl, hN1, hN2, hRN, hpj⟩ := natP_get hy (HALL.out y (List.mem_of_getElem? hy))
              rw [HPS.out] at hpj
              have HPJ := Lib.hid hpj
              cases hao
              dsimp only at c3 c4
              have cA1 : (wr.alloc (.cells #[.int .i64 R2, .int .i64 M2] 53)).cell? ⟨ba, 0, none⟩ = some (.int .i64 R) := ((Below.alloc (Below.refl _ wr) (Nat.le_refl _) _).cell (World.block_lt_of_cell? wr _ ((hby.out.cell (World.block_lt_of_cell? wa _ ca1.out)).trans ca1.out))).trans ((hby.out.cell (World.block_lt_of_cell? wa _ ca1.out)).trans ca1.out)
              have cA2 : (wr.alloc (.cells #[.int .i64 R2, .int .i64 M2] 53)).cell? ⟨ba, 1, none⟩ = some (.int .i64 M) := ((Below.alloc (Below.refl _ wr) (Nat.le_refl _) _).cell (World.block_lt_of_cell? wr _ ((hby.out.cell (World.block_lt_of_cell? wa _ ca2.out)).trans ca2.out))).trans ((hby.out.cell (World.block_lt_of_cell? wa _ ca2.out)).trans ca2.out)
              have cB1 : (wr.alloc (.cells #[.int .i64 R2, .int .i64 M2] 53)).cell? ⟨wr.heap.size, 0, none⟩ = some (.int .i64 R2) := by simp [World.cell?_alloc_new]
              have cB2 : (wr.alloc (.cells #[.int .i64 R2, .int .i64 M2] 53)).cell? ⟨wr.heap.size, 1, none⟩ = some (.int .i64 M2) := by simp [World.cell?_alloc_new]
              have HB9 := Lib.hid (hby.out.alloc hby.out.size (.cells #[.int .i64 R2, .int .i64 M2] 53))
              clear hy hpj
              rcases hW with rfl | rfl
              · obtain ⟨g, hg⟩ : ∃ g, Nat.gcd M M2 = g := ⟨_, rfl⟩
                have hg0 : 1 ≤ g := by rw [← hg]; exact Nat.gcd_pos_of_pos_right _ (by omega)
                have hgM : g ≤ M2 := by rw [← hg]; exact Nat.gcd_le_right _ (by omega)
                have HGC := Lib.hid (fun W' => gcdOfN M M2 W' (by omega) (by omega))
                rw [hg] at HGC
                obtain ⟨d, hd⟩ : ∃ d, (R : Int) - R2 = d := ⟨_, rfl⟩
                have wd : IntKind.i64.wrap d = d := IntWalk.i64_in _ (by omega)
                obtain ⟨t, ht⟩ : ∃ t, Int.tmod d (g : Int) = t := ⟨_, rfl⟩
                have htb : -1000 ≤ t ∧ t ≤ 1000 := by
                  have h1 := Int.lt_tmod_of_pos d (b := (g : Int)) (by omega)
                  have h2 := Int.tmod_lt_of_pos d (b := (g : Int)) (by omega)
                  omega
                have wt : IntKind.i64.wrap t = t := IntWalk.i64_in _ (by omega)
                have hodt : Hid (odds (R, M) (R2, M2) ↔ t ≠ 0) := odds_tmod (by dsimp only; rw [hd, hg]; exact ht)
                have hg0I : ¬ ((g : Int) = 0) := by omega
                clear hg
                by_cases ht0 : t = 0
                · have dt : (t != 0) = false := by simpa using ht0
                  have hag2 : Hid (agreeTo ps k ∧ ∀ i b, i < j + 1 → ps[i]? = some b → ¬ odds (R, M) b) := by
                    obtain ⟨h1, h2⟩ := hag.out rfl
                    refine ⟨h1, fun i b hi hb => ?_⟩
                    rcases Nat.lt_or_ge i j with h | h
                    · exact h2 i b h hb
                    · obtain rfl : i = j := by omega
                      rw [HPJ.out] at hb; cases hb
                      intro ho
                      exact hodt.out.1 ho ht0
                  clear ht0
                  go_wp2_with fail
                  go_quiet ((go_at_call 32; (first | exact quiet_at0 (fun W' => HGC.out W') | exact quiet_at (fun W' => HGC.out W'))))
                  go_wp2_with fail
                  go_roundw
                  case rel => exact ⟨j + 1, 0, by go_num, by omega, rfl, .inl rfl, Lib.hid (fun _ => hag2.out), Lib.hid (fun h => by cases h), Lib.hid (below_drewN HB9.out _)⟩
                  case measure => simp [intOf]; omega
                · have dt : (t != 0) = true := by simpa using ht0
                  have hod2 : Hid (AnyOdds ps) := ⟨k, j, (R, M), (R2, M2), hjk, HPK.out, HPJ.out, hodt.out.2 ht0⟩
                  clear ht0
                  go_wp2_with fail
                  go_quiet ((go_at_call 32; (first | exact quiet_at0 (fun W' => HGC.out W') | exact quiet_at (fun W' => HGC.out W'))))
                  go_wp2_with fail
                  go_roundw
                  case rel => exact ⟨j + 1, 4, by go_num, by omega, rfl, .inr rfl, Lib.hid (fun h => by cases h), Lib.hid (fun _ => hod2.out), Lib.hid (below_drewN HB9.out _)⟩
                  case measure => simp [intOf]; omega
              · have hodx : Hid (AnyOdds ps) := hod.out rfl
                go_wp2_with fail
                go_quiet (fail)
                go_wp2_with fail
                go_roundw
                case rel => exact ⟨j + 1, 4, by go_num, by omega, rfl, .inr rfl, Lib.hid (fun h => by cases h), Lib.hid (fun _ => hodx.out), Lib.hid (below_drewN HB9.out _)⟩
                case measure => simp [intOf]; omega
            · have hag2 : Hid (W = 0 → agreeTo ps (k + 1)) := fun h => by
                obtain ⟨h1, h2⟩ := hag.out h
                exact h1.next HPK.out fun i b hi hb => h2 i b (by omega) hb
              have HB9 := Lib.hid (HB8.out.trans (Below.mono hby.out HB8.out.size))
              go_wp2_with fail
              go_roundw
              case rel => exact ⟨k + 1, W, by go_num, by omega, rfl, hW, hag2, hod, HB9⟩
              case measure => simp [intOf]; omega
        · have hW4 : W = 4 := by
            rcases hW with h | h
            · exact ((hag.out h).no (by omega) HODD.out).elim
            · exact h
          subst hW4
          go_wp2_with fail
          go_ret
          exact ⟨by simp, hb.out⟩

set_option maxRecDepth 100000 in
set_option maxHeartbeats 8000000 in
theorem chineseSays_bad_e (ao : Option Addr) (cap : Nat) (zs : List (Int × Int)) (n : Int) (bo : Option Addr) (cap2 : Nat) (ms : List Int) (w : World) (h1 : PairsIn .i64 .i64 w ao zs.length zs) (hco : CapOk ao zs.length cap) (h2 : IntsIn .i64 w bo ms.length ms) (hnb : n ≤ 9223372036854775807) (hz : chinE zs ≠ 0) (hn : ¬ n < 0) (h6 : ¬ 6 < ms.length) (hb : ms.any mBad = true) :
    Calls Try.prog 5 #[.slice ao zs.length cap, .int .i64 n, .slice bo ms.length cap2] w fun e w' => e = .returned (.bool true) ∧ Below w.heap.size w w' := by
  have hl1 := h1.2.1
  have hl2 := h2.2.1
  have hcp : zs.length ≤ cap := hco.2.1
  have hR := Lib.hid h1.2.2.2
  have hR2 := Lib.hid h2.2.2.2
  have hcm : (cap : Int) ≤ 9223372036854775807 := by have := hco.2.2; omega
  have HP := Lib.hid (fun W hr => chinese_Parts n ms bo cap2 W hnb hl2 hr)
  have HK := Lib.hid (fun W hr => chinese_Check zs ao cap W hl1 hr)
  have HCR := Lib.hid (fun W hr => containsFunc_rest zs ao cap W hl1 hr)
  have HCM := Lib.hid (fun W hr => containsFunc_mods ms bo cap2 W hl2 hr)
  have HZ := Lib.hid hz
  clear hco
  have f1 : decide (n < 0) = false := decide_eq_false hn
  have f2 : decide ((6 : Int) < ms.length) = false := by simp; omega
  have hpe : partsE n ms = 1 := by unfold partsE; rw [if_neg hn, if_neg h6, if_pos hb]
  rw [hb] at HCM
  clear hb
  clear h1 h2 hz
  go_enter Try.func5, Try.ntmps5
  go_wp2_with fail
  refine (chinese_Join_bad zs ao cap w hl1 HZ.out hR).mono ?_
  rintro e w1 ⟨rfl, hb1⟩
  have HB1 := Lib.hid hb1
  have HRZ1 := Lib.hid (hR.out.below hb1)
  have HRM1 := Lib.hid (hR2.out.below hb1)
  clear hb1
  go_wp2_with fail
  refine (HP.out _ HRM1).mono ?_
  rintro e w2 ⟨pa, pl, pc, rfl, hb2, hpp⟩
  have HB2 := Lib.hid (HB1.out.trans (Below.mono hb2 HB1.out.size))
  have HRZ := Lib.hid (HRZ1.out.below hb2)
  have HRM := Lib.hid (HRM1.out.below hb2)
  rw [hpe] at hpp ⊢
  have hpq : pl = 0 := by
    rcases hpp with ⟨_, h⟩ | ⟨h, _⟩
    · exact h
    · cases h
  subst hpq
  clear hb2 hpp hpe HRZ1 HRM1 HB1
  obtain ⟨E, hE⟩ : ∃ E, chinE zs = E := ⟨_, rfl⟩
  have HE := Lib.hid hE
  rw [hE] at HK ⊢
  have hE0 : (E != 0) = true := by have := HZ.out; rw [hE] at this; simpa using this
  have hE1 : (E == 0) = false := by have := HZ.out; rw [hE] at this; simpa using this
  clear hE
  go_wp2_with fail
  refine (HCM.out _ HRM).mono ?_
  rintro e1 w' ⟨rfl, q1, rfl⟩
  have HB5 := Lib.hid (below_drewN HB2.out q1)
  have HRZ5 := Lib.hid (HRZ.out.drew q1)
  obtain ⟨w5, hw5⟩ : ∃ w5, w2.drewN q1 = w5 := ⟨_, rfl⟩
  rw [hw5] at HB5 HRZ5 ⊢
  clear hw5 HB2 HRZ HRM
  go_wp2_with fail
  go_loop [66] (fun vi => vi = .int .i64 0) (fun _ => 0)
  case atStart => rfl
  case round =>
    subst hrel
    by_cases h6 : 6 < zs.length
    · have g1 : decide ((6 : Int) < zs.length) = true := by simp; omega
      have hE2 : E = 2 := by rw [← HE.out]; unfold chinE; rw [if_pos h6]
      subst hE2
      go_wp2_with fail
      refine (HK.out _ HRZ5).mono ?_
      rintro e1 w7 ⟨rfl, hb7⟩
      have HB7 := Lib.hid (HB5.out.trans (Below.mono hb7 HB5.out.size))
      clear hb7
      go_wp2_with fail
      go_loopw [12, 101] (fun vw vi wx => vw = .int .i64 2 ∧ ∃ k : Nat, vi = .int .i64 k ∧ k ≤ zs.length ∧ Hid (Below w.heap.size w wx)) (fun _ vi _ => zs.length - (intOf vi).toNat)
      case atStart => exact ⟨rfl, 0, rfl, by omega, HB7⟩
      case round =>
        obtain ⟨rfl, k, rfl, hk, hb⟩ := hrel
        by_cases hkl : k < zs.length
        · obtain ⟨z, hz⟩ : ∃ z, zs[k]? = some z := ⟨zs[k]'hkl, List.getElem?_eq_getElem _⟩
          obtain ⟨b3, o3, rfl, c1, c2⟩ := pair_cell (hR.out.below hb.out) hz
          have hkc : (k : Int) ≤ cap := by omega
          have hk0 : (0 : Int) ≤ k := by omega
          have HB8 := Lib.hid (hb.out.alloc hb.out.size (.cells #[.int .i64 z.1, .int .i64 z.2] 53))
          clear hz
          go_wp2_with fail
          go_loopw [12, 110] (fun vw vj wy => vw = .int .i64 2 ∧ ∃ j : Nat, vj = .int .i64 j ∧ j ≤ k ∧ Hid (Below w.heap.size w wy)) (fun _ vj _ => k - (intOf vj).toNat)
          case atStart => exact ⟨rfl, 0, rfl, by omega, HB8⟩
          case round =>
            obtain ⟨rfl, j, rfl, hj, hb⟩ := hrel
            by_cases hjk : j < k
            · obtain ⟨y, hy⟩ : ∃ y, zs[j]? = some y := ⟨zs[j]'(by omega), List.getElem?_eq_getElem _⟩
              obtain ⟨b4, o4, hao, c3, c4⟩ := pair_cell (hR.out.below hb.out) hy
              cases hao
              have HB9 := Lib.hid (hb.out.alloc hb.out.size (.cells #[.int .i64 y.1, .int .i64 y.2] 53))
              clear hy
              go_wp2_with fail
              go_quiet (fail)
              go_wp2_with fail
              go_roundw
              case rel => exact ⟨rfl, j + 1, by go_num, by omega, Lib.hid (below_drewN HB9.out _)⟩
              case measure => simp [intOf]; omega
            · go_wp2_with fail
              go_roundw
              case rel => exact ⟨rfl, k + 1, by go_num, by omega, hb⟩
              case measure => simp [intOf]; omega
        · go_wp2_with fail
          go_ret
          exact ⟨by simp, hb.out⟩
    · have g1 : decide ((6 : Int) < zs.length) = false := by simp; omega
      have hany : zs.any rBad = true := by
        have h1 := HE.out
        have h2 := HZ.out
        unfold chinE at h1 h2
        rw [if_neg h6] at h2
        cases h : zs.any rBad
        · rw [h] at h2; exact absurd rfl h2
        · rfl
      have hE2 : E = 1 := by rw [← HE.out]; unfold chinE; rw [if_neg h6, if_pos hany]
      subst hE2
      rw [hany] at HCR
      clear hany
      go_wp2_with fail
      refine (HCR.out _ HRZ5).mono ?_
      rintro e1 w6 ⟨rfl, hb6⟩
      have HB6 := Lib.hid (HB5.out.trans (Below.mono hb6 HB5.out.size))
      have HRZ6 := Lib.hid (HRZ5.out.below hb6)
      clear hb6
      go_wp2_with fail
      refine (HK.out _ HRZ6).mono ?_
      rintro e1 w7 ⟨rfl, hb7⟩
      have HB7 := Lib.hid (HB6.out.trans (Below.mono hb7 HB6.out.size))
      clear hb7
      go_wp2_with fail
      go_loopw [12, 101] (fun vw vi wx => vw = .int .i64 1 ∧ ∃ k : Nat, vi = .int .i64 k ∧ k ≤ zs.length ∧ Hid (Below w.heap.size w wx)) (fun _ vi _ => zs.length - (intOf vi).toNat)
      case atStart => exact ⟨rfl, 0, rfl, by omega, HB7⟩
      case round =>
        obtain ⟨rfl, k, rfl, hk, hb⟩ := hrel
        by_cases hkl : k < zs.length
        · obtain ⟨z, hz⟩ : ∃ z, zs[k]? = some z := ⟨zs[k]'hkl, List.getElem?_eq_getElem _⟩
          obtain ⟨b3, o3, rfl, c1, c2⟩ := pair_cell (hR.out.below hb.out) hz
          have hkc : (k : Int) ≤ cap := by omega
          have hk0 : (0 : Int) ≤ k := by omega
          have HB8 := Lib.hid (hb.out.alloc hb.out.size (.cells #[.int .i64 z.1, .int .i64 z.2] 53))
          clear hz
          go_wp2_with fail
          go_loopw [12, 110] (fun vw vj wy => vw = .int .i64 1 ∧ ∃ j : Nat, vj = .int .i64 j ∧ j ≤ k ∧ Hid (Below w.heap.size w wy)) (fun _ vj _ => k - (intOf vj).toNat)
          case atStart => exact ⟨rfl, 0, rfl, by omega, HB8⟩
          case round =>
            obtain ⟨rfl, j, rfl, hj, hb⟩ := hrel
            by_cases hjk : j < k
            · obtain ⟨y, hy⟩ : ∃ y, zs[j]? = some y := ⟨zs[j]'(by omega), List.getElem?_eq_getElem _⟩
              obtain ⟨b4, o4, hao, c3, c4⟩ := pair_cell (hR.out.below hb.out) hy
              cases hao
              have HB9 := Lib.hid (hb.out.alloc hb.out.size (.cells #[.int .i64 y.1, .int .i64 y.2] 53))
              clear hy
              go_wp2_with fail
              go_quiet (fail)
              go_wp2_with fail
              go_roundw
              case rel => exact ⟨rfl, j + 1, by go_num, by omega, Lib.hid (below_drewN HB9.out _)⟩
              case measure => simp [intOf]; omega
            · go_wp2_with fail
              go_roundw
              case rel => exact ⟨rfl, k + 1, by go_num, by omega, hb⟩
              case measure => simp [intOf]; omega
        · go_wp2_with fail
          go_ret
          exact ⟨by simp, hb.out⟩

set_option maxRecDepth 100000 in
set_option maxHeartbeats 8000000 in
theorem chineseSays_bad_z (ao : Option Addr) (cap : Nat) (zs : List (Int × Int)) (n : Int) (bo : Option Addr) (cap2 : Nat) (ms : List Int) (w : World) (h1 : PairsIn .i64 .i64 w ao zs.length zs) (hco : CapOk ao zs.length cap) (h2 : IntsIn .i64 w bo ms.length ms) (hnb : n ≤ 9223372036854775807) (hz : chinE zs = 0) (hn : ¬ n < 0) (h6 : ¬ 6 < ms.length) (hb : ms.any mBad = true) :
    Calls Try.prog 5 #[.slice ao zs.length cap, .int .i64 n, .slice bo ms.length cap2] w fun e w' => e = .returned (.bool true) ∧ Below w.heap.size w w' := by
  have hl1 := h1.2.1
  have hl2 := h2.2.1
  have hcp : zs.length ≤ cap := hco.2.1
  have hR := Lib.hid h1.2.2.2
  have hR2 := Lib.hid h2.2.2.2
  have hcm : (cap : Int) ≤ 9223372036854775807 := by have := hco.2.2; omega
  have HP := Lib.hid (fun W hr => chinese_Parts n ms bo cap2 W hnb hl2 hr)
  have HK := Lib.hid (fun W hr => chinese_Check zs ao cap W hl1 hr)
  have HCR := Lib.hid (fun W hr => containsFunc_rest zs ao cap W hl1 hr)
  have HCM := Lib.hid (fun W hr => containsFunc_mods ms bo cap2 W hl2 hr)
  have HZ := Lib.hid hz
  clear hco
  have f1 : decide (n < 0) = false := decide_eq_false hn
  have f2 : decide ((6 : Int) < ms.length) = false := by simp; omega
  have hpe : partsE n ms = 1 := by unfold partsE; rw [if_neg hn, if_neg h6, if_pos hb]
  rw [hb] at HCM
  clear hb
  clear h1 h2 hz
  go_enter Try.func5, Try.ntmps5
  go_wp2_with fail
  refine (chinese_Join zs ao cap w HZ.out hR).mono ?_
  rintro e w1 ⟨hb1, hjo⟩
  have HB1 := Lib.hid hb1
  have HRZ1 := Lib.hid (hR.out.below hb1)
  have HRM1 := Lib.hid (hR2.out.below hb1)
  have hch := chin_ok HZ.out
  have HALL := Lib.hid hch.2
  have h6l := hch.1
  rw [HZ.out] at HK
  clear hb1 hch
  rcases hjo with ⟨x, m, hsys, hm18, rfl⟩ | ⟨hodd, rfl⟩
  · have HSYS := Lib.hid hsys
    clear hsys
    go_wp2_with fail
    refine (HP.out _ HRM1).mono ?_
    rintro e w2 ⟨pa, pl, pc, rfl, hb2, hpp⟩
    have HB2 := Lib.hid (HB1.out.trans (Below.mono hb2 HB1.out.size))
    have HRZ := Lib.hid (HRZ1.out.below hb2)
    have HRM := Lib.hid (HRM1.out.below hb2)
    rw [hpe] at hpp ⊢
    have hpq : pl = 0 := by
      rcases hpp with ⟨_, h⟩ | ⟨h, _⟩
      · exact h
      · cases h
    subst hpq
    clear hb2 hpp hpe HRZ1 HRM1 HB1
    go_wp2_with fail
    refine (HCM.out _ HRM).mono ?_
    rintro e1 w' ⟨rfl, q1, rfl⟩
    have HB5 := Lib.hid (below_drewN HB2.out q1)
    have HRZ5 := Lib.hid (HRZ.out.drew q1)
    obtain ⟨w5, hw5⟩ : ∃ w5, w2.drewN q1 = w5 := ⟨_, rfl⟩
    rw [hw5] at HB5 HRZ5 ⊢
    clear hw5 HB2 HRZ HRM
    go_wp2_with fail
    go_loop [66] (fun vi => vi = .int .i64 0) (fun _ => 0)
    case atStart => rfl
    case round =>
      subst hrel
      have g1 : decide ((6 : Int) < zs.length) = false := by simp; omega
      have hany : zs.any rBad = false := by
        rw [List.any_eq_false]
        intro z hz
        rw [HALL.out z hz]; decide
      rw [hany] at HCR
      clear hany
      obtain ⟨ps, hps⟩ : ∃ ps, natP zs = ps := ⟨_, rfl⟩
      have HPS := Lib.hid hps
      have hpl : ps.length = zs.length := by rw [← hps, natP_len]
      rw [hps] at HSYS
      clear hps
      go_wp2_with fail
      refine (HCR.out _ HRZ5).mono ?_
      rintro e1 w6 ⟨rfl, hb6⟩
      have HB6 := Lib.hid (HB5.out.trans (Below.mono hb6 HB5.out.size))
      have HRZ6 := Lib.hid (HRZ5.out.below hb6)
      clear hb6
      go_wp2_with fail
      refine (HK.out _ HRZ6).mono ?_
      rintro e1 w7 ⟨rfl, hb7⟩
      have HB7 := Lib.hid (HB6.out.trans (Below.mono hb7 HB6.out.size))
      clear hb7
      go_wp2_with fail
      go_loopw [12, 101] (fun vw vi wx => ∃ (k : Nat) (W : Int), vi = .int .i64 k ∧ k ≤ zs.length ∧ vw = .int .i64 W ∧ (W = 0 ∨ W = 4) ∧ Hid (W = 0 → agreeTo ps k) ∧ Hid (W = 4 → AnyOdds ps) ∧ Hid (Below w.heap.size w wx)) (fun _ vi _ => zs.length - (intOf vi).toNat)
      case atStart => exact ⟨0, 0, rfl, by omega, rfl, .inl rfl, Lib.hid (fun _ => by intro i j a b _ hi; omega), Lib.hid (fun h => by cases h), HB7⟩
      case round =>
        obtain ⟨k, W, rfl, hk, rfl, hW, hag, hod, hb⟩ := hrel
        by_cases hkl : k < zs.length
        · obtain ⟨z, hz⟩ : ∃ z, zs[k]? = some z := ⟨zs[k]'hkl, List.getElem?_eq_getElem _⟩
          obtain ⟨b3, o3, rfl, c1, c2⟩ := pair_cell (hR.out.below hb.out) hz
          obtain ⟨R, M, rfl, hM1, hM2, hRM, hpk⟩ := natP_get hz (HALL.out z (List.mem_of_getElem? hz))
          rw [HPS.out] at hpk
          have HPK := Lib.hid hpk
          dsimp only at c1 c2
          have hkc : (k : Int) ≤ cap := by omega
          have hk0 : (0 : Int) ≤ k := by omega
          have HB8 := Lib.hid (hb.out.alloc hb.out.size (.cells #[.int .i64 R, .int .i64 M] 53))
          obtain ⟨wa, hwa⟩ : ∃ wa, wr.alloc (.cells #[.int .i64 R, .int .i64 M] 53) = wa := ⟨_, rfl⟩
          have ca1 : Hid (wa.cell? ⟨wr.heap.size, 0, none⟩ = some (.int .i64 R)) := Lib.hid (by rw [← hwa]; simp [World.cell?_alloc_new])
          have ca2 : Hid (wa.cell? ⟨wr.heap.size, 1, none⟩ = some (.int .i64 M)) := Lib.hid (by rw [← hwa]; simp [World.cell?_alloc_new])
          rw [hwa] at HB8
          have HWA := Lib.hid hwa
          obtain ⟨ba, hba⟩ : ∃ ba, wr.heap.size = ba := ⟨_, rfl⟩
          rw [hba] at ca1 ca2
          have HBA := Lib.hid hba
          clear hz hpk hwa hba
          go_wp2_with fail
          rw [HWA.out, HBA.out]
          go_loopw [12, 110] (fun vw vj wy => ∃ (j : Nat) (W : Int), vj = .int .i64 j ∧ j ≤ k ∧ vw = .int .i64 W ∧ (W = 0 ∨ W = 4) ∧ Hid (W = 0 → agreeTo ps k ∧ ∀ i b, i < j → ps[i]? = some b → ¬ odds (R, M) b) ∧ Hid (W = 4 → AnyOdds ps) ∧ Hid (Below wa.heap.size wa wy)) (fun _ vj _ => k - (intOf vj).toNat)
          case atStart => exact ⟨0, W, rfl, by omega, rfl, hW, Lib.hid (fun h => ⟨hag.out h, fun i b hi => by omega⟩), hod, Below.refl _ _⟩
          case round =>
            obtain ⟨j, W, rfl, hj, rfl, hW, hag, hod, hby⟩ := hrel
            by_cases hjk : j < k
            · obtain ⟨y, hy⟩ : ∃ y, zs[j]? = some y := ⟨zs[j]'(by omega), List.getElem?_eq_getElem _⟩
              obtain ⟨b4, o4, hao, c3, c4⟩ := pair_cell ((hR.out.below HB8.out).below hby.out) hy
              obtain ⟨R2, M2, rfl, hN1, hN2, hRN, hpj⟩ := natP_get hy (HALL.out y (List.mem_of_getElem? hy))
              rw [HPS.out] at hpj
              have HPJ := Lib.hid hpj
              cases hao
              dsimp only at c3 c4
              have cA1 : (wr.alloc (.cells #[.int .i64 R2, .int .i64 M2] 53)).cell? ⟨ba, 0, none⟩ = some (.int .i64 R) := ((Below.alloc (Below.refl _ wr) (Nat.le_refl _) _).cell (World.block_lt_of_cell? wr _ ((hby.out.cell (World.block_lt_of_cell? wa _ ca1.out)).trans ca1.out))).trans ((hby.out.cell (World.block_lt_of_cell? wa _ ca1.out)).trans ca1.out)
              have cA2 : (wr.alloc (.cells #[.int .i64 R2, .int .i64 M2] 53)).cell? ⟨ba, 1, none⟩ = some (.int .i64 M) := ((Below.alloc (Below.refl _ wr) (Nat.le_refl _) _).cell (World.block_lt_of_cell? wr _ ((hby.out.cell (World.block_lt_of_cell? wa _ ca2.out)).trans ca2.out))).trans ((hby.out.cell (World.block_lt_of_cell? wa _ ca2.out)).trans ca2.out)
              have cB1 : (wr.alloc (.cells #[.int .i64 R2, .int .i64 M2] 53)).cell? ⟨wr.heap.size, 0, none⟩ = some (.int .i64 R2) := by simp [World.cell?_alloc_new]
              have cB2 : (wr.alloc (.cells #[.int .i64 R2, .int .i64 M2] 53)).cell? ⟨wr.heap.size, 1, none⟩ = some (.int .i64 M2) := by simp [World.cell?_alloc_new]
              have HB9 := Lib.hid (hby.out.alloc hby.out.size (.cells #[.int .i64 R2, .int .i64 M2] 53))
              clear hy hpj
              rcases hW with rfl | rfl
              · obtain ⟨g, hg⟩ : ∃ g, Nat.gcd M M2 = g := ⟨_, rfl⟩
                have hg0 : 1 ≤ g := by rw [← hg]; exact Nat.gcd_pos_of_pos_right _ (by omega)
                have hgM : g ≤ M2 := by rw [← hg]; exact Nat.gcd_le_right _ (by omega)
                have HGC := Lib.hid (fun W' => gcdOfN M M2 W' (by omega) (by omega))
                rw [hg] at HGC
                obtain ⟨d, hd⟩ : ∃ d, (R : Int) - R2 = d := ⟨_, rfl⟩
                have wd : IntKind.i64.wrap d = d := IntWalk.i64_in _ (by omega)
                obtain ⟨t, ht⟩ : ∃ t, Int.tmod d (g : Int) = t := ⟨_, rfl⟩
                have htb : -1000 ≤ t ∧ t ≤ 1000 := by
                  have h1 := Int.lt_tmod_of_pos d (b := (g : Int)) (by omega)
                  have h2 := Int.tmod_lt_of_pos d (b := (g : Int)) (by omega)
                  omega
                have wt : IntKind.i64.wrap t = t := IntWalk.i64_in _ (by omega)
                have hodt : Hid (odds (R, M) (R2, M2) ↔ t ≠ 0) := odds_tmod (by dsimp only; rw [hd, hg]; exact ht)
                have hg0I : ¬ ((g : Int) = 0) := by omega
                clear hg
                by_cases ht0 : t = 0
                · have dt : (t != 0) = false := by simpa using ht0
                  have hag2 : Hid (agreeTo ps k ∧ ∀ i b, i < j + 1 → ps[i]? = some b → ¬ odds (R, M) b) := by
                    obtain ⟨h1, h2⟩ := hag.out rfl
                    refine ⟨h1, fun i b hi hb => ?_⟩
                    rcases Nat.lt_or_ge i j with h | h
                    · exact h2 i b h hb
                    · obtain rfl : i = j := by omega
                      rw [HPJ.out] at hb; cases hb
                      intro ho
                      exact hodt.out.1 ho ht0
                  clear ht0
                  go_wp2_with fail
                  go_quiet ((go_at_call 32; (first | exact quiet_at0 (fun W' => HGC.out W') | exact quiet_at (fun W' => HGC.out W'))))
                  go_wp2_with fail
                  go_roundw
                  case rel => exact ⟨j + 1, 0, by go_num, by omega, rfl, .inl rfl, Lib.hid (fun _ => hag2.out), Lib.hid (fun h => by cases h), Lib.hid (below_drewN HB9.out _)⟩
                  case measure => simp [intOf]; omega
                · have dt : (t != 0) = true := by simpa using ht0
                  have hod2 : Hid (AnyOdds ps) := ⟨k, j, (R, M), (R2, M2), hjk, HPK.out, HPJ.out, hodt.out.2 ht0⟩
                  clear ht0
                  go_wp2_with fail
                  go_quiet ((go_at_call 32; (first | exact quiet_at0 (fun W' => HGC.out W') | exact quiet_at (fun W' => HGC.out W'))))
                  go_wp2_with fail
                  go_roundw
                  case rel => exact ⟨j + 1, 4, by go_num, by omega, rfl, .inr rfl, Lib.hid (fun h => by cases h), Lib.hid (fun _ => hod2.out), Lib.hid (below_drewN HB9.out _)⟩
                  case measure => simp [intOf]; omega
              · have hodx : Hid (AnyOdds ps) := hod.out rfl
                go_wp2_with fail
                go_quiet (fail)
                go_wp2_with fail
                go_roundw
                case rel => exact ⟨j + 1, 4, by go_num, by omega, rfl, .inr rfl, Lib.hid (fun h => by cases h), Lib.hid (fun _ => hodx.out), Lib.hid (below_drewN HB9.out _)⟩
                case measure => simp [intOf]; omega
            · have hag2 : Hid (W = 0 → agreeTo ps (k + 1)) := fun h => by
                obtain ⟨h1, h2⟩ := hag.out h
                exact h1.next HPK.out fun i b hi hb => h2 i b (by omega) hb
              have HB9 := Lib.hid (HB8.out.trans (Below.mono hby.out HB8.out.size))
              go_wp2_with fail
              go_roundw
              case rel => exact ⟨k + 1, W, by go_num, by omega, rfl, hW, hag2, hod, HB9⟩
              case measure => simp [intOf]; omega
        · have hW0 : W = 0 := by
            rcases hW with h | h
            · exact h
            · exact (HSYS.out.not_odds (hod.out h)).elim
          subst hW0
          have hxm := HSYS.out.lt
          go_wp2_with fail
          go_loopw [15, 147] (fun va vi wx => ∃ k A : Nat, vi = .int .i64 k ∧ k ≤ zs.length ∧ va = .int .i64 A ∧ Hid (A = lcmF (ps.take k)) ∧ Hid (A ≤ 1000 ^ k) ∧ Hid (Below w.heap.size w wx)) (fun _ vi _ => zs.length - (intOf vi).toNat)
          case atStart => exact ⟨0, 1, rfl, by omega, rfl, rfl, Lib.hid (Nat.le_refl _), hb⟩
          case round =>
            obtain ⟨k, A, rfl, hk, rfl, hA, hAb, hb⟩ := hrel
            by_cases hkl : k < zs.length
            · obtain ⟨z, hz⟩ : ∃ z, zs[k]? = some z := ⟨zs[k]'hkl, List.getElem?_eq_getElem _⟩
              obtain ⟨b3, o3, rfl, c1, c2⟩ := pair_cell (hR.out.below hb.out) hz
              obtain ⟨R, M, rfl, hM1, hM2, hRM, hpk⟩ := natP_get hz (HALL.out z (List.mem_of_getElem? hz))
              rw [HPS.out] at hpk
              dsimp only at c1 c2
              have hA18 : A ≤ 1000000000000000 := Nat.le_trans hAb.out (Nat.le_trans (Nat.pow_le_pow_right (by omega) (show k ≤ 5 by omega)) (by decide))
              obtain ⟨g, hg⟩ : ∃ g, Nat.gcd A M = g := ⟨_, rfl⟩
              have hg0 : 1 ≤ g := by rw [← hg]; exact Nat.gcd_pos_of_pos_right _ (by omega)
              have HGC := Lib.hid (fun W' => gcdOfN A M W' (by omega) (by omega))
              rw [hg] at HGC
              obtain ⟨u, hu⟩ : ∃ u, A / g = u := ⟨_, rfl⟩
              have hu18 : u ≤ A := by rw [← hu]; exact Nat.div_le_self _ _
              have eu : (A : Int) / (g : Int) = (u : Int) := by rw [← hu]; push_cast; rfl
              obtain ⟨v, hv⟩ : ∃ v, u * M = v := ⟨_, rfl⟩
              have hvb : v ≤ A * 1000 := by rw [← hv]; exact Nat.mul_le_mul hu18 hM2
              have ev : (u : Int) * (M : Int) = (v : Int) := by rw [← hv]; push_cast; rfl
              have wu : IntKind.i64.wrap (u : Int) = (u : Int) := IntWalk.i64_in _ (by omega)
              have wv : IntKind.i64.wrap (v : Int) = (v : Int) := IntWalk.i64_in _ (by omega)
              have hnewA : Hid (v = lcmF (ps.take (k + 1))) := by
                show _ = _
                rw [List.take_add_one, hpk]
                show _ = lcmF (ps.take k ++ [(R, M)])
                rw [lcmF_snoc, ← hA.out, ← lcm_quo', hg, hu, hv]
              have hnewb : Hid (v ≤ 1000 ^ (k + 1)) := by
                show _ ≤ _
                rw [Nat.pow_succ]
                exact Nat.le_trans hvb (Nat.mul_le_mul_right _ hAb.out)
              have hres : x % M = R := HSYS.out.res (R, M) (List.mem_of_getElem? hpk)
              have er : (x : Int) % (M : Int) = (R : Int) := by rw [← hres]; push_cast; rfl
              have eR : ((R : Int) != (R : Int)) = false := by simp
              have wR : IntKind.i64.wrap (R : Int) = (R : Int) := IntWalk.i64_in _ (by omega)
              have hg0I : ¬ ((g : Int) = 0) := by omega
              have hM0I : ¬ ((M : Int) = 0) := by omega
              have cb1 : (wr.alloc (.cells #[.int .i64 R, .int .i64 M] 53)).cell? ⟨wr.heap.size, 0, none⟩ = some (.int .i64 R) := by simp [World.cell?_alloc_new]
              have cb2 : (wr.alloc (.cells #[.int .i64 R, .int .i64 M] 53)).cell? ⟨wr.heap.size, 1, none⟩ = some (.int .i64 M) := by simp [World.cell?_alloc_new]
              have HB9 := Lib.hid (hb.out.alloc hb.out.size (.cells #[.int .i64 R, .int .i64 M] 53))
              clear hz hpk hg hu hv hres
              go_wp2_with fail
              go_quiet ((go_at_call 32; (first | exact quiet_at0 (fun W' => HGC.out W') | exact quiet_at (fun W' => HGC.out W'))))
              go_wp2_with fail
              go_quiet (fail)
              go_wp2_with fail
              go_roundw
              case rel => exact ⟨k + 1, v, by go_num, by omega, rfl, hnewA, hnewb, Lib.hid (by repeat (first | exact HB9.out | apply below_drewN))⟩
              case measure => simp [intOf]; omega
            · have hkk : k = ps.length := by omega
              have hAm : A = m := by rw [hA.out, hkk, List.take_length, HSYS.out.mod]
              subst hAm
              clear hkk
              go_wp2_with fail
              go_ret
              exact ⟨by simp <;> omega, hb.out⟩
  · have HODD := Lib.hid hodd
    clear hodd
    go_wp2_with fail
    refine (HP.out _ HRM1).mono ?_
    rintro e w2 ⟨pa, pl, pc, rfl, hb2, hpp⟩
    have HB2 := Lib.hid (HB1.out.trans (Below.mono hb2 HB1.out.size))
    have HRZ := Lib.hid (HRZ1.out.below hb2)
    have HRM := Lib.hid (HRM1.out.below hb2)
    rw [hpe] at hpp ⊢
    have hpq : pl = 0 := by
      rcases hpp with ⟨_, h⟩ | ⟨h, _⟩
      · exact h
      · cases h
    subst hpq
    clear hb2 hpp hpe HRZ1 HRM1 HB1
    go_wp2_with fail
    refine (HCM.out _ HRM).mono ?_
    rintro e1 w' ⟨rfl, q1, rfl⟩
    have HB5 := Lib.hid (below_drewN HB2.out q1)
    have HRZ5 := Lib.hid (HRZ.out.drew q1)
    obtain ⟨w5, hw5⟩ : ∃ w5, w2.drewN q1 = w5 := ⟨_, rfl⟩
    rw [hw5] at HB5 HRZ5 ⊢
    clear hw5 HB2 HRZ HRM
    go_wp2_with fail
    go_loop [66] (fun vi => vi = .int .i64 0) (fun _ => 0)
    case atStart => rfl
    case round =>
      subst hrel
      have g1 : decide ((6 : Int) < zs.length) = false := by simp; omega
      have hany : zs.any rBad = false := by
        rw [List.any_eq_false]
        intro z hz
        rw [HALL.out z hz]; decide
      rw [hany] at HCR
      clear hany
      obtain ⟨ps, hps⟩ : ∃ ps, natP zs = ps := ⟨_, rfl⟩
      have HPS := Lib.hid hps
      have hpl : ps.length = zs.length := by rw [← hps, natP_len]
      rw [hps] at HODD
      clear hps
      go_wp2_with fail
      refine (HCR.out _ HRZ5).mono ?_
      rintro e1 w6 ⟨rfl, hb6⟩
      have HB6 := Lib.hid (HB5.out.trans (Below.mono hb6 HB5.out.size))
      have HRZ6 := Lib.hid (HRZ5.out.below hb6)
      clear hb6
      go_wp2_with fail
      refine (HK.out _ HRZ6).mono ?_
      rintro e1 w7 ⟨rfl, hb7⟩
      have HB7 := Lib.hid (HB6.out.trans (Below.mono hb7 HB6.out.size))
      clear hb7
      go_wp2_with fail
      go_loopw [12, 101] (fun vw vi wx => ∃ (k : Nat) (W : Int), vi = .int .i64 k ∧ k ≤ zs.length ∧ vw = .int .i64 W ∧ (W = 0 ∨ W = 4) ∧ Hid (W = 0 → agreeTo ps k) ∧ Hid (W = 4 → AnyOdds ps) ∧ Hid (Below w.heap.size w wx)) (fun _ vi _ => zs.length - (intOf vi).toNat)
      case atStart => exact ⟨0, 0, rfl, by omega, rfl, .inl rfl, Lib.hid (fun _ => by intro i j a b _ hi; omega), Lib.hid (fun h => by cases h), HB7⟩
      case round =>
        obtain ⟨k, W, rfl, hk, rfl, hW, hag, hod, hb⟩ := hrel
        by_cases hkl : k < zs.length
        · obtain ⟨z, hz⟩ : ∃ z, zs[k]? = some z := ⟨zs[k]'hkl, List.getElem?_eq_getElem _⟩
          obtain ⟨b3, o3, rfl, c1, c2⟩ := pair_cell (hR.out.below hb.out) hz
          obtain ⟨R, M, rfl, hM1, hM2, hRM, hpk⟩ := natP_get hz (HALL.out z (List.mem_of_getElem? hz))
          rw [HPS.out] at hpk
          have HPK := Lib.hid hpk
          dsimp only at c1 c2
          have hkc : (k : Int) ≤ cap := by omega
          have hk0 : (0 : Int) ≤ k := by omega
          have HB8 := Lib.hid (hb.out.alloc hb.out.size (.cells #[.int .i64 R, .int .i64 M] 53))
          obtain ⟨wa, hwa⟩ : ∃ wa, wr.alloc (.cells #[.int .i64 R, .int .i64 M] 53) = wa := ⟨_, rfl⟩
          have ca1 : Hid (wa.cell? ⟨wr.heap.size, 0, none⟩ = some (.int .i64 R)) := Lib.hid (by rw [← hwa]; simp [World.cell?_alloc_new])
          have ca2 : Hid (wa.cell? ⟨wr.heap.size, 1, none⟩ = some (.int .i64 M)) := Lib.hid (by rw [← hwa]; simp [World.cell?_alloc_new])
          rw [hwa] at HB8
          have HWA := Lib.hid hwa
          obtain ⟨ba, hba⟩ : ∃ ba, wr.heap.size = ba := ⟨_, rfl⟩
          rw [hba] at ca1 ca2
          have HBA := Lib.hid hba
          clear hz hpk hwa hba
          go_wp2_with fail
          rw [HWA.out, HBA.out]
          go_loopw [12, 110] (fun vw vj wy => ∃ (j : Nat) (W : Int), vj = .int .i64 j ∧ j ≤ k ∧ vw = .int .i64 W ∧ (W = 0 ∨ W = 4) ∧ Hid (W = 0 → agreeTo ps k ∧ ∀ i b, i < j → ps[i]? = some b → ¬ odds (R, M) b) ∧ Hid (W = 4 → AnyOdds ps) ∧ Hid (Below wa.heap.size wa wy)) (fun _ vj _ => k - (intOf vj).toNat)
          case atStart => exact ⟨0, W, rfl, by omega, rfl, hW, Lib.hid (fun h => ⟨hag.out h, fun i b hi => by omega⟩), hod, Below.refl _ _⟩
          case round =>
            obtain ⟨j, W, rfl, hj, rfl, hW, hag, hod, hby⟩ := hrel
            by_cases hjk : j < k
            · obtain ⟨y, hy⟩ : ∃ y, zs[j]? = some y := ⟨zs[j]'(by omega), List.getElem?_eq_getElem _⟩
              obtain ⟨b4, o4, hao, c3, c4⟩ := pair_cell ((hR.out.below HB8.out).below hby.out) hy
              obtain ⟨R2, M2, rfl, hN1, hN2, hRN, hpj⟩ := natP_get hy (HALL.out y (List.mem_of_getElem? hy))
              rw [HPS.out] at hpj
              have HPJ := Lib.hid hpj
              cases hao
              dsimp only at c3 c4
              have cA1 : (wr.alloc (.cells #[.int .i64 R2, .int .i64 M2] 53)).cell? ⟨ba, 0, none⟩ = some (.int .i64 R) := ((Below.alloc (Below.refl _ wr) (Nat.le_refl _) _).cell (World.block_lt_of_cell? wr _ ((hby.out.cell (World.block_lt_of_cell? wa _ ca1.out)).trans ca1.out))).trans ((hby.out.cell (World.block_lt_of_cell? wa _ ca1.out)).trans ca1.out)
              have cA2 : (wr.alloc (.cells #[.int .i64 R2, .int .i64 M2] 53)).cell? ⟨ba, 1, none⟩ = some (.int .i64 M) := ((Below.alloc (Below.refl _ wr) (Nat.le_refl _) _).cell (World.block_lt_of_cell? wr _ ((hby.out.cell (World.block_lt_of_cell? wa _ ca2.out)).trans ca2.out))).trans ((hby.out.cell (World.block_lt_of_cell? wa _ ca2.out)).trans ca2.out)
              have cB1 : (wr.alloc (.cells #[.int .i64 R2, .int .i64 M2] 53)).cell? ⟨wr.heap.size, 0, none⟩ = some (.int .i64 R2) := by simp [World.cell?_alloc_new]
              have cB2 : (wr.alloc (.cells #[.int .i64 R2, .int .i64 M2] 53)).cell? ⟨wr.heap.size, 1, none⟩ = some (.int .i64 M2) := by simp [World.cell?_alloc_new]
              have HB9 := Lib.hid (hby.out.alloc hby.out.size (.cells #[.int .i64 R2, .int .i64 M2] 53))
              clear hy hpj
              rcases hW with rfl | rfl
              · obtain ⟨g, hg⟩ : ∃ g, Nat.gcd M M2 = g := ⟨_, rfl⟩
                have hg0 : 1 ≤ g := by rw [← hg]; exact Nat.gcd_pos_of_pos_right _ (by omega)
                have hgM : g ≤ M2 := by rw [← hg]; exact Nat.gcd_le_right _ (by omega)
                have HGC := Lib.hid (fun W' => gcdOfN M M2 W' (by omega) (by omega))
                rw [hg] at HGC
                obtain ⟨d, hd⟩ : ∃ d, (R : Int) - R2 = d := ⟨_, rfl⟩
                have wd : IntKind.i64.wrap d = d := IntWalk.i64_in _ (by omega)
                obtain ⟨t, ht⟩ : ∃ t, Int.tmod d (g : Int) = t := ⟨_, rfl⟩
                have htb : -1000 ≤ t ∧ t ≤ 1000 := by
                  have h1 := Int.lt_tmod_of_pos d (b := (g : Int)) (by omega)
                  have h2 := Int.tmod_lt_of_pos d (b := (g : Int)) (by omega)
                  omega
                have wt : IntKind.i64.wrap t = t := IntWalk.i64_in _ (by omega)
                have hodt : Hid (odds (R, M) (R2, M2) ↔ t ≠ 0) := odds_tmod (by dsimp only; rw [hd, hg]; exact ht)
                have hg0I : ¬ ((g : Int) = 0) := by omega
                clear hg
                by_cases ht0 : t = 0
                · have dt : (t != 0) = false := by simpa using ht0
                  have hag2 : Hid (agreeTo ps k ∧ ∀ i b, i < j + 1 → ps[i]? = some b → ¬ odds (R, M) b) := by
                    obtain ⟨h1, h2⟩ := hag.out rfl
                    refine ⟨h1, fun i b hi hb => ?_⟩
                    rcases Nat.lt_or_ge i j with h | h
                    · exact h2 i b h hb
                    · obtain rfl : i = j := by omega
                      rw [HPJ.out] at hb; cases hb
                      intro ho
                      exact hodt.out.1 ho ht0
                  clear ht0
                  go_wp2_with fail
                  go_quiet ((go_at_call 32; (first | exact quiet_at0 (fun W' => HGC.out W') | exact quiet_at (fun W' => HGC.out W'))))
                  go_wp2_with fail
                  go_roundw
                  case rel => exact ⟨j + 1, 0, by go_num, by omega, rfl, .inl rfl, Lib.hid (fun _ => hag2.out), Lib.hid (fun h => by cases h), Lib.hid (below_drewN HB9.out _)⟩
                  case measure => simp [intOf]; omega
                · have dt : (t != 0) = true := by simpa using ht0
                  have hod2 : Hid (AnyOdds ps) := ⟨k, j, (R, M), (R2, M2), hjk, HPK.out, HPJ.out, hodt.out.2 ht0⟩
                  clear ht0
                  go_wp2_with fail
                  go_quiet ((go_at_call 32; (first | exact quiet_at0 (fun W' => HGC.out W') | exact quiet_at (fun W' => HGC.out W'))))
                  go_wp2_with fail
                  go_roundw
                  case rel => exact ⟨j + 1, 4, by go_num, by omega, rfl, .inr rfl, Lib.hid (fun h => by cases h), Lib.hid (fun _ => hod2.out), Lib.hid (below_drewN HB9.out _)⟩
                  case measure => simp [intOf]; omega
              · have hodx : Hid (AnyOdds ps) := hod.out rfl
                go_wp2_with fail
                go_quiet (fail)
                go_wp2_with fail
                go_roundw
                case rel => exact ⟨j + 1, 4, by go_num, by omega, rfl, .inr rfl, Lib.hid (fun h => by cases h), Lib.hid (fun _ => hodx.out), Lib.hid (below_drewN HB9.out _)⟩
                case measure => simp [intOf]; omega
            · have hag2 : Hid (W = 0 → agreeTo ps (k + 1)) := fun h => by
                obtain ⟨h1, h2⟩ := hag.out h
                exact h1.next HPK.out fun i b hi hb => h2 i b (by omega) hb
              have HB9 := Lib.hid (HB8.out.trans (Below.mono hby.out HB8.out.size))
              go_wp2_with fail
              go_roundw
              case rel => exact ⟨k + 1, W, by go_num, by omega, rfl, hW, hag2, hod, HB9⟩
              case measure => simp [intOf]; omega
        · have hW4 : W = 4 := by
            rcases hW with h | h
            · exact ((hag.out h).no (by omega) HODD.out).elim
            · exact h
          subst hW4
          go_wp2_with fail
          go_ret
          exact ⟨by simp, hb.out⟩

set_option maxRecDepth 100000 in
set_option maxHeartbeats 8000000 in
theorem chineseSays_ok_e (ao : Option Addr) (cap : Nat) (zs : List (Int × Int)) (n : Int) (bo : Option Addr) (cap2 : Nat) (ms : List Int) (w : World) (h1 : PairsIn .i64 .i64 w ao zs.length zs) (hco : CapOk ao zs.length cap) (h2 : IntsIn .i64 w bo ms.length ms) (hnb : n ≤ 9223372036854775807) (hz : chinE zs ≠ 0) (hn : ¬ n < 0) (h6 : ¬ 6 < ms.length) (hb : ms.any mBad = false) :
    Calls Try.prog 5 #[.slice ao zs.length cap, .int .i64 n, .slice bo ms.length cap2] w fun e w' => e = .returned (.bool true) ∧ Below w.heap.size w w' := by
  have hl1 := h1.2.1
  have hl2 := h2.2.1
  have hcp : zs.length ≤ cap := hco.2.1
  have hR := Lib.hid h1.2.2.2
  have hR2 := Lib.hid h2.2.2.2
  have hcm : (cap : Int) ≤ 9223372036854775807 := by have := hco.2.2; omega
  have HP := Lib.hid (fun W hr => chinese_Parts n ms bo cap2 W hnb hl2 hr)
  have HK := Lib.hid (fun W hr => chinese_Check zs ao cap W hl1 hr)
  have HCR := Lib.hid (fun W hr => containsFunc_rest zs ao cap W hl1 hr)
  have HCM := Lib.hid (fun W hr => containsFunc_mods ms bo cap2 W hl2 hr)
  have HZ := Lib.hid hz
  clear hco
  have f1 : decide (n < 0) = false := decide_eq_false hn
  have f2 : decide ((6 : Int) < ms.length) = false := by simp; omega
  have hpe : partsE n ms = 0 := by unfold partsE; rw [if_neg hn, if_neg h6, if_neg (by rw [hb]; decide)]
  have HMS : Hid (∀ m ∈ ms, mBad m = false) := fun m hm => by simpa using (List.any_eq_false.1 hb) m hm
  rw [hb] at HCM
  clear hb
  clear h1 h2 hz
  go_enter Try.func5, Try.ntmps5
  go_wp2_with fail
  refine (chinese_Join_bad zs ao cap w hl1 HZ.out hR).mono ?_
  rintro e w1 ⟨rfl, hb1⟩
  have HB1 := Lib.hid hb1
  have HRZ1 := Lib.hid (hR.out.below hb1)
  have HRM1 := Lib.hid (hR2.out.below hb1)
  clear hb1
  go_wp2_with fail
  refine (HP.out _ HRM1).mono ?_
  rintro e w2 ⟨pa, pl, pc, rfl, hb2, hpp⟩
  have HB2 := Lib.hid (HB1.out.trans (Below.mono hb2 HB1.out.size))
  have HRZ := Lib.hid (HRZ1.out.below hb2)
  have HRM := Lib.hid (HRM1.out.below hb2)
  rw [hpe] at hpp ⊢
  have hpq : pl = ms.length ∧ Reads w2 pa (pairR (ms.map fun m => (n % m, m))) := by
    rcases hpp with ⟨h, _⟩ | ⟨_, h, g⟩
    · exact absurd rfl h
    · exact ⟨h, g⟩
  obtain ⟨rfl, hpr⟩ := hpq
  have HPR := Lib.hid hpr
  clear hb2 hpp hpe hpr HRZ1 HRM1 HB1
  obtain ⟨E, hE⟩ : ∃ E, chinE zs = E := ⟨_, rfl⟩
  have HE := Lib.hid hE
  rw [hE] at HK ⊢
  have hE0 : (E != 0) = true := by have := HZ.out; rw [hE] at this; simpa using this
  have hE1 : (E == 0) = false := by have := HZ.out; rw [hE] at this; simpa using this
  clear hE
  go_wp2_with fail
  refine (HCM.out _ HRM).mono ?_
  rintro e1 w' ⟨rfl, q1, rfl⟩
  go_wp2_with fail
  go_loopw [66] (fun vi wr => ∃ k : Nat, vi = .int .i64 k ∧ k ≤ ms.length ∧ Hid (Below w2.heap.size w2 wr)) (fun vi _ => ms.length - (intOf vi).toNat)
  case atStart => exact ⟨0, rfl, by omega, Lib.hid (below_dr _ _ _)⟩
  case round =>
    obtain ⟨k, rfl, hk, hb⟩ := hrel
    by_cases hkl : k < ms.length
    · obtain ⟨m, hm⟩ : ∃ m, ms[k]? = some m := ⟨ms[k]'hkl, List.getElem?_eq_getElem _⟩
      have hmb := HMS.out m (List.mem_of_getElem? hm)
      have hm1 : 1 ≤ m ∧ m ≤ 1000 := by unfold mBad at hmb; simp only [decide_eq_false_iff_not] at hmb; omega
      obtain ⟨b3, o3, rfl, c3⟩ := (HRM.out.below hb.out) k (.int .i64 m) (by rw [List.getElem?_map, hm]; rfl)
      obtain ⟨b4, o4, rfl, c1, c2⟩ := pair_cell (HPR.out.below hb.out) (k := k) (z := (n % m, m)) (by rw [List.getElem?_map, hm]; rfl)
      dsimp only at c1 c2
      have et : Int.tmod n m = n % m := Int.tmod_eq_emod_of_nonneg (by omega)
      have hnb0 := Int.emod_nonneg n (b := m) (by omega)
      have hnb1 := Int.emod_lt_of_pos n (b := m) (by omega)
      obtain ⟨r, hr⟩ : ∃ r, n % m = r := ⟨_, rfl⟩
      rw [hr] at et hnb0 hnb1 c1
      have wr1 : IntKind.i64.wrap r = r := IntWalk.i64_in _ (by omega)
      have e1 : (m != m) = false := by simp
      have e2 : (r != r) = false := by simp
      have hkI : (k : Int) < ms.length := by omega
      have hk0 : (0 : Int) ≤ k := by omega
      have hm0 : ¬ (m = 0) := by omega
      have cb1 : (wr.alloc (.cells #[.int .i64 r, .int .i64 m] 53)).cell? ⟨wr.heap.size, 0, none⟩ = some (.int .i64 r) := by simp [World.cell?_alloc_new]
      have cb2 : (wr.alloc (.cells #[.int .i64 r, .int .i64 m] 53)).cell? ⟨wr.heap.size, 1, none⟩ = some (.int .i64 m) := by simp [World.cell?_alloc_new]
      have c3' : (wr.alloc (.cells #[.int .i64 r, .int .i64 m] 53)).cell? ⟨b3, o3 + k, none⟩ = some (.int .i64 m) := ((Below.alloc (Below.refl _ wr) (Nat.le_refl _) _).cell (World.block_lt_of_cell? wr _ c3)).trans c3
      have HB3 := Lib.hid (hb.out.alloc hb.out.size (.cells #[.int .i64 r, .int .i64 m] 53))
      have HR0 := Lib.hid hr
      clear hm hmb hr
      go_wp2_with fail
      go_quiet (fail)
      go_wp2_with fail
      go_roundw
      case rel => exact ⟨k + 1, by go_num, by omega, Lib.hid (below_drewN HB3.out _)⟩
      case measure => simp [intOf]; omega
    · have HB5 := Lib.hid (HB2.out.trans (Below.mono hb.out HB2.out.size))
      have HRZ5 := Lib.hid (HRZ.out.below hb.out)
      clear hb HB2 HRZ HRM HPR
      by_cases h6 : 6 < zs.length
      · have g1 : decide ((6 : Int) < zs.length) = true := by simp; omega
        have hE2 : E = 2 := by rw [← HE.out]; unfold chinE; rw [if_pos h6]
        subst hE2
        go_wp2_with fail
        refine (HK.out _ HRZ5).mono ?_
        rintro e1 w7 ⟨rfl, hb7⟩
        have HB7 := Lib.hid (HB5.out.trans (Below.mono hb7 HB5.out.size))
        clear hb7
        go_wp2_with fail
        go_loopw [12, 101] (fun vw vi wx => vw = .int .i64 2 ∧ ∃ k : Nat, vi = .int .i64 k ∧ k ≤ zs.length ∧ Hid (Below w.heap.size w wx)) (fun _ vi _ => zs.length - (intOf vi).toNat)
        case atStart => exact ⟨rfl, 0, rfl, by omega, HB7⟩
        case round =>
          obtain ⟨rfl, k, rfl, hk, hb⟩ := hrel
          by_cases hkl : k < zs.length
          · obtain ⟨z, hz⟩ : ∃ z, zs[k]? = some z := ⟨zs[k]'hkl, List.getElem?_eq_getElem _⟩
            obtain ⟨b3, o3, rfl, c1, c2⟩ := pair_cell (hR.out.below hb.out) hz
            have hkc : (k : Int) ≤ cap := by omega
            have hk0 : (0 : Int) ≤ k := by omega
            have HB8 := Lib.hid (hb.out.alloc hb.out.size (.cells #[.int .i64 z.1, .int .i64 z.2] 53))
            clear hz
            go_wp2_with fail
            go_loopw [12, 110] (fun vw vj wy => vw = .int .i64 2 ∧ ∃ j : Nat, vj = .int .i64 j ∧ j ≤ k ∧ Hid (Below w.heap.size w wy)) (fun _ vj _ => k - (intOf vj).toNat)
            case atStart => exact ⟨rfl, 0, rfl, by omega, HB8⟩
            case round =>
              obtain ⟨rfl, j, rfl, hj, hb⟩ := hrel
              by_cases hjk : j < k
              · obtain ⟨y, hy⟩ : ∃ y, zs[j]? = some y := ⟨zs[j]'(by omega), List.getElem?_eq_getElem _⟩
                obtain ⟨b4, o4, hao, c3, c4⟩ := pair_cell (hR.out.below hb.out) hy
                cases hao
                have HB9 := Lib.hid (hb.out.alloc hb.out.size (.cells #[.int .i64 y.1, .int .i64 y.2] 53))
                clear hy
                go_wp2_with fail
                go_quiet (fail)
                go_wp2_with fail
                go_roundw
                case rel => exact ⟨rfl, j + 1, by go_num, by omega, Lib.hid (below_drewN HB9.out _)⟩
                case measure => simp [intOf]; omega
              · go_wp2_with fail
                go_roundw
                case rel => exact ⟨rfl, k + 1, by go_num, by omega, hb⟩
                case measure => simp [intOf]; omega
          · go_wp2_with fail
            go_ret
            exact ⟨by simp, hb.out⟩
      · have g1 : decide ((6 : Int) < zs.length) = false := by simp; omega
        have hany : zs.any rBad = true := by
          have h1 := HE.out
          have h2 := HZ.out
          unfold chinE at h1 h2
          rw [if_neg h6] at h2
          cases h : zs.any rBad
          · rw [h] at h2; exact absurd rfl h2
          · rfl
        have hE2 : E = 1 := by rw [← HE.out]; unfold chinE; rw [if_neg h6, if_pos hany]
        subst hE2
        rw [hany] at HCR
        clear hany
        go_wp2_with fail
        refine (HCR.out _ HRZ5).mono ?_
        rintro e1 w6 ⟨rfl, hb6⟩
        have HB6 := Lib.hid (HB5.out.trans (Below.mono hb6 HB5.out.size))
        have HRZ6 := Lib.hid (HRZ5.out.below hb6)
        clear hb6
        go_wp2_with fail
        refine (HK.out _ HRZ6).mono ?_
        rintro e1 w7 ⟨rfl, hb7⟩
        have HB7 := Lib.hid (HB6.out.trans (Below.mono hb7 HB6.out.size))
        clear hb7
        go_wp2_with fail
        go_loopw [12, 101] (fun vw vi wx => vw = .int .i64 1 ∧ ∃ k : Nat, vi = .int .i64 k ∧ k ≤ zs.length ∧ Hid (Below w.heap.size w wx)) (fun _ vi _ => zs.length - (intOf vi).toNat)
        case atStart => exact ⟨rfl, 0, rfl, by omega, HB7⟩
        case round =>
          obtain ⟨rfl, k, rfl, hk, hb⟩ := hrel
          by_cases hkl : k < zs.length
          · obtain ⟨z, hz⟩ : ∃ z, zs[k]? = some z := ⟨zs[k]'hkl, List.getElem?_eq_getElem _⟩
            obtain ⟨b3, o3, rfl, c1, c2⟩ := pair_cell (hR.out.below hb.out) hz
            have hkc : (k : Int) ≤ cap := by omega
            have hk0 : (0 : Int) ≤ k := by omega
            have HB8 := Lib.hid (hb.out.alloc hb.out.size (.cells #[.int .i64 z.1, .int .i64 z.2] 53))
            clear hz
            go_wp2_with fail
            go_loopw [12, 110] (fun vw vj wy => vw = .int .i64 1 ∧ ∃ j : Nat, vj = .int .i64 j ∧ j ≤ k ∧ Hid (Below w.heap.size w wy)) (fun _ vj _ => k - (intOf vj).toNat)
            case atStart => exact ⟨rfl, 0, rfl, by omega, HB8⟩
            case round =>
              obtain ⟨rfl, j, rfl, hj, hb⟩ := hrel
              by_cases hjk : j < k
              · obtain ⟨y, hy⟩ : ∃ y, zs[j]? = some y := ⟨zs[j]'(by omega), List.getElem?_eq_getElem _⟩
                obtain ⟨b4, o4, hao, c3, c4⟩ := pair_cell (hR.out.below hb.out) hy
                cases hao
                have HB9 := Lib.hid (hb.out.alloc hb.out.size (.cells #[.int .i64 y.1, .int .i64 y.2] 53))
                clear hy
                go_wp2_with fail
                go_quiet (fail)
                go_wp2_with fail
                go_roundw
                case rel => exact ⟨rfl, j + 1, by go_num, by omega, Lib.hid (below_drewN HB9.out _)⟩
                case measure => simp [intOf]; omega
              · go_wp2_with fail
                go_roundw
                case rel => exact ⟨rfl, k + 1, by go_num, by omega, hb⟩
                case measure => simp [intOf]; omega
          · go_wp2_with fail
            go_ret
            exact ⟨by simp, hb.out⟩

set_option maxRecDepth 100000 in
set_option maxHeartbeats 8000000 in
theorem chineseSays_ok_z (ao : Option Addr) (cap : Nat) (zs : List (Int × Int)) (n : Int) (bo : Option Addr) (cap2 : Nat) (ms : List Int) (w : World) (h1 : PairsIn .i64 .i64 w ao zs.length zs) (hco : CapOk ao zs.length cap) (h2 : IntsIn .i64 w bo ms.length ms) (hnb : n ≤ 9223372036854775807) (hz : chinE zs = 0) (hn : ¬ n < 0) (h6 : ¬ 6 < ms.length) (hb : ms.any mBad = false) :
    Calls Try.prog 5 #[.slice ao zs.length cap, .int .i64 n, .slice bo ms.length cap2] w fun e w' => e = .returned (.bool true) ∧ Below w.heap.size w w' := by
  have hl1 := h1.2.1
  have hl2 := h2.2.1
  have hcp : zs.length ≤ cap := hco.2.1
  have hR := Lib.hid h1.2.2.2
  have hR2 := Lib.hid h2.2.2.2
  have hcm : (cap : Int) ≤ 9223372036854775807 := by have := hco.2.2; omega
  have HP := Lib.hid (fun W hr => chinese_Parts n ms bo cap2 W hnb hl2 hr)
  have HK := Lib.hid (fun W hr => chinese_Check zs ao cap W hl1 hr)
  have HCR := Lib.hid (fun W hr => containsFunc_rest zs ao cap W hl1 hr)
  have HCM := Lib.hid (fun W hr => containsFunc_mods ms bo cap2 W hl2 hr)
  have HZ := Lib.hid hz
  clear hco
  have f1 : decide (n < 0) = false := decide_eq_false hn
  have f2 : decide ((6 : Int) < ms.length) = false := by simp; omega
  have hpe : partsE n ms = 0 := by unfold partsE; rw [if_neg hn, if_neg h6, if_neg (by rw [hb]; decide)]
  have HMS : Hid (∀ m ∈ ms, mBad m = false) := fun m hm => by simpa using (List.any_eq_false.1 hb) m hm
  rw [hb] at HCM
  clear hb
  clear h1 h2 hz
  go_enter Try.func5, Try.ntmps5
  go_wp2_with fail
  refine (chinese_Join zs ao cap w HZ.out hR).mono ?_
  rintro e w1 ⟨hb1, hjo⟩
  have HB1 := Lib.hid hb1
  have HRZ1 := Lib.hid (hR.out.below hb1)
  have HRM1 := Lib.hid (hR2.out.below hb1)
  have hch := chin_ok HZ.out
  have HALL := Lib.hid hch.2
  have h6l := hch.1
  rw [HZ.out] at HK
  clear hb1 hch
  rcases hjo with ⟨x, m, hsys, hm18, rfl⟩ | ⟨hodd, rfl⟩
  · have HSYS := Lib.hid hsys
    clear hsys
    go_wp2_with fail
    refine (HP.out _ HRM1).mono ?_
    rintro e w2 ⟨pa, pl, pc, rfl, hb2, hpp⟩
    have HB2 := Lib.hid (HB1.out.trans (Below.mono hb2 HB1.out.size))
    have HRZ := Lib.hid (HRZ1.out.below hb2)
    have HRM := Lib.hid (HRM1.out.below hb2)
    rw [hpe] at hpp ⊢
    have hpq : pl = ms.length ∧ Reads w2 pa (pairR (ms.map fun m => (n % m, m))) := by
      rcases hpp with ⟨h, _⟩ | ⟨_, h, g⟩
      · exact absurd rfl h
      · exact ⟨h, g⟩
    obtain ⟨rfl, hpr⟩ := hpq
    have HPR := Lib.hid hpr
    clear hb2 hpp hpe hpr HRZ1 HRM1 HB1
    go_wp2_with fail
    refine (HCM.out _ HRM).mono ?_
    rintro e1 w' ⟨rfl, q1, rfl⟩
    go_wp2_with fail
    go_loopw [66] (fun vi wr => ∃ k : Nat, vi = .int .i64 k ∧ k ≤ ms.length ∧ Hid (Below w2.heap.size w2 wr)) (fun vi _ => ms.length - (intOf vi).toNat)
    case atStart => exact ⟨0, rfl, by omega, Lib.hid (below_dr _ _ _)⟩
    case round =>
      obtain ⟨k, rfl, hk, hb⟩ := hrel
      by_cases hkl : k < ms.length
      · obtain ⟨m, hm⟩ : ∃ m, ms[k]? = some m := ⟨ms[k]'hkl, List.getElem?_eq_getElem _⟩
        have hmb := HMS.out m (List.mem_of_getElem? hm)
        have hm1 : 1 ≤ m ∧ m ≤ 1000 := by unfold mBad at hmb; simp only [decide_eq_false_iff_not] at hmb; omega
        obtain ⟨b3, o3, rfl, c3⟩ := (HRM.out.below hb.out) k (.int .i64 m) (by rw [List.getElem?_map, hm]; rfl)
        obtain ⟨b4, o4, rfl, c1, c2⟩ := pair_cell (HPR.out.below hb.out) (k := k) (z := (n % m, m)) (by rw [List.getElem?_map, hm]; rfl)
        dsimp only at c1 c2
        have et : Int.tmod n m = n % m := Int.tmod_eq_emod_of_nonneg (by omega)
        have hnb0 := Int.emod_nonneg n (b := m) (by omega)
        have hnb1 := Int.emod_lt_of_pos n (b := m) (by omega)
        obtain ⟨r, hr⟩ : ∃ r, n % m = r := ⟨_, rfl⟩
        rw [hr] at et hnb0 hnb1 c1
        have wr1 : IntKind.i64.wrap r = r := IntWalk.i64_in _ (by omega)
        have e1 : (m != m) = false := by simp
        have e2 : (r != r) = false := by simp
        have hkI : (k : Int) < ms.length := by omega
        have hk0 : (0 : Int) ≤ k := by omega
        have hm0 : ¬ (m = 0) := by omega
        have cb1 : (wr.alloc (.cells #[.int .i64 r, .int .i64 m] 53)).cell? ⟨wr.heap.size, 0, none⟩ = some (.int .i64 r) := by simp [World.cell?_alloc_new]
        have cb2 : (wr.alloc (.cells #[.int .i64 r, .int .i64 m] 53)).cell? ⟨wr.heap.size, 1, none⟩ = some (.int .i64 m) := by simp [World.cell?_alloc_new]
        have c3' : (wr.alloc (.cells #[.int .i64 r, .int .i64 m] 53)).cell? ⟨b3, o3 + k, none⟩ = some (.int .i64 m) := ((Below.alloc (Below.refl _ wr) (Nat.le_refl _) _).cell (World.block_lt_of_cell? wr _ c3)).trans c3
        have HB3 := Lib.hid (hb.out.alloc hb.out.size (.cells #[.int .i64 r, .int .i64 m] 53))
        have HR0 := Lib.hid hr
        clear hm hmb hr
        go_wp2_with fail
        go_quiet (fail)
        go_wp2_with fail
        go_roundw
        case rel => exact ⟨k + 1, by go_num, by omega, Lib.hid (below_drewN HB3.out _)⟩
        case measure => simp [intOf]; omega
      · have HB5 := Lib.hid (HB2.out.trans (Below.mono hb.out HB2.out.size))
        have HRZ5 := Lib.hid (HRZ.out.below hb.out)
        clear hb HB2 HRZ HRM HPR
        have g1 : decide ((6 : Int) < zs.length) = false := by simp; omega
        have hany : zs.any rBad = false := by
          rw [List.any_eq_false]
          intro z hz
          rw [HALL.out z hz]; decide
        rw [hany] at HCR
        clear hany
        obtain ⟨ps, hps⟩ : ∃ ps, natP zs = ps := ⟨_, rfl⟩
        have HPS := Lib.hid hps
        have hpl : ps.length = zs.length := by rw [← hps, natP_len]
        rw [hps] at HSYS
        clear hps
        go_wp2_with fail
        refine (HCR.out _ HRZ5).mono ?_
        rintro e1 w6 ⟨rfl, hb6⟩
        have HB6 := Lib.hid (HB5.out.trans (Below.mono hb6 HB5.out.size))
        have HRZ6 := Lib.hid (HRZ5.out.below hb6)
        clear hb6
        go_wp2_with fail
        refine (HK.out _ HRZ6).mono ?_
        rintro e1 w7 ⟨rfl, hb7⟩
        have HB7 := Lib.hid (HB6.out.trans (Below.mono hb7 HB6.out.size))
        clear hb7
        go_wp2_with fail
        go_loopw [12, 101] (fun vw vi wx => ∃ (k : Nat) (W : Int), vi = .int .i64 k ∧ k ≤ zs.length ∧ vw = .int .i64 W ∧ (W = 0 ∨ W = 4) ∧ Hid (W = 0 → agreeTo ps k) ∧ Hid (W = 4 → AnyOdds ps) ∧ Hid (Below w.heap.size w wx)) (fun _ vi _ => zs.length - (intOf vi).toNat)
        case atStart => exact ⟨0, 0, rfl, by omega, rfl, .inl rfl, Lib.hid (fun _ => by intro i j a b _ hi; omega), Lib.hid (fun h => by cases h), HB7⟩
        case round =>
          obtain ⟨k, W, rfl, hk, rfl, hW, hag, hod, hb⟩ := hrel
          by_cases hkl : k < zs.length
          · obtain ⟨z, hz⟩ : ∃ z, zs[k]? = some z := ⟨zs[k]'hkl, List.getElem?_eq_getElem _⟩
            obtain ⟨b3, o3, rfl, c1, c2⟩ := pair_cell (hR.out.below hb.out) hz
            obtain ⟨R, M, rfl, hM1, hM2, hRM, hpk⟩ := natP_get hz (HALL.out z (List.mem_of_getElem? hz))
            rw [HPS.out] at hpk
            have HPK := Lib.hid hpk
            dsimp only at c1 c2
            have hkc : (k : Int) ≤ cap := by omega
            have hk0 : (0 : Int) ≤ k := by omega
            have HB8 := Lib.hid (hb.out.alloc hb.out.size (.cells #[.int .i64 R, .int .i64 M] 53))
            obtain ⟨wa, hwa⟩ : ∃ wa, wr.alloc (.cells #[.int .i64 R, .int .i64 M] 53) = wa := ⟨_, rfl⟩
            have ca1 : Hid (wa.cell? ⟨wr.heap.size, 0, none⟩ = some (.int .i64 R)) := Lib.hid (by rw [← hwa]; simp [World.cell?_alloc_new])
            have ca2 : Hid (wa.cell? ⟨wr.heap.size, 1, none⟩ = some (.int .i64 M)) := Lib.hid (by rw [← hwa]; simp [World.cell?_alloc_new])
            rw [hwa] at HB8
            have HWA := Lib.hid hwa
            obtain ⟨ba, hba⟩ : ∃ ba, wr.heap.size = ba := ⟨_, rfl⟩
            rw [hba] at ca1 ca2
            have HBA := Lib.hid hba
            clear hz hpk hwa hba
            go_wp2_with fail
            rw [HWA.out, HBA.out]
            go_loopw [12, 110] (fun vw vj wy => ∃ (j : Nat) (W : Int), vj = .int .i64 j ∧ j ≤ k ∧ vw = .int .i64 W ∧ (W = 0 ∨ W = 4) ∧ Hid (W = 0 → agreeTo ps k ∧ ∀ i b, i < j → ps[i]? = some b → ¬ odds (R, M) b) ∧ Hid (W = 4 → AnyOdds ps) ∧ Hid (Below wa.heap.size wa wy)) (fun _ vj _ => k - (intOf vj).toNat)
            case atStart => exact ⟨0, W, rfl, by omega, rfl, hW, Lib.hid (fun h => ⟨hag.out h, fun i b hi => by omega⟩), hod, Below.refl _ _⟩
            case round =>
              obtain ⟨j, W, rfl, hj, rfl, hW, hag, hod, hby⟩ := hrel
              by_cases hjk : j < k
              · obtain ⟨y, hy⟩ : ∃ y, zs[j]? = some y := ⟨zs[j]'(by omega), List.getElem?_eq_getElem _⟩
                obtain ⟨b4, o4, hao, c3, c4⟩ := pair_cell ((hR.out.below HB8.out).below hby.out) hy
                obtain ⟨R2, M2, rfl, hN1, hN2, hRN, hpj⟩ := natP_get hy (HALL.out y (List.mem_of_getElem? hy))
                rw [HPS.out] at hpj
                have HPJ := Lib.hid hpj
                cases hao
                dsimp only at c3 c4
                have cA1 : (wr.alloc (.cells #[.int .i64 R2, .int .i64 M2] 53)).cell? ⟨ba, 0, none⟩ = some (.int .i64 R) := ((Below.alloc (Below.refl _ wr) (Nat.le_refl _) _).cell (World.block_lt_of_cell? wr _ ((hby.out.cell (World.block_lt_of_cell? wa _ ca1.out)).trans ca1.out))).trans ((hby.out.cell (World.block_lt_of_cell? wa _ ca1.out)).trans ca1.out)
                have cA2 : (wr.alloc (.cells #[.int .i64 R2, .int .i64 M2] 53)).cell? ⟨ba, 1, none⟩ = some (.int .i64 M) := ((Below.alloc (Below.refl _ wr) (Nat.le_refl _) _).cell (World.block_lt_of_cell? wr _ ((hby.out.cell (World.block_lt_of_cell? wa _ ca2.out)).trans ca2.out))).trans ((hby.out.cell (World.block_lt_of_cell? wa _ ca2.out)).trans ca2.out)
                have cB1 : (wr.alloc (.cells #[.int .i64 R2, .int .i64 M2] 53)).cell? ⟨wr.heap.size, 0, none⟩ = some (.int .i64 R2) := by simp [World.cell?_alloc_new]
                have cB2 : (wr.alloc (.cells #[.int .i64 R2, .int .i64 M2] 53)).cell? ⟨wr.heap.size, 1, none⟩ = some (.int .i64 M2) := by simp [World.cell?_alloc_new]
                have HB9 := Lib.hid (hby.out.alloc hby.out.size (.cells #[.int .i64 R2, .int .i64 M2] 53))
                clear hy hpj
                rcases hW with rfl | rfl
                · obtain ⟨g, hg⟩ : ∃ g, Nat.gcd M M2 = g := ⟨_, rfl⟩
                  have hg0 : 1 ≤ g := by rw [← hg]; exact Nat.gcd_pos_of_pos_right _ (by omega)
                  have hgM : g ≤ M2 := by rw [← hg]; exact Nat.gcd_le_right _ (by omega)
                  have HGC := Lib.hid (fun W' => gcdOfN M M2 W' (by omega) (by omega))
                  rw [hg] at HGC
                  obtain ⟨d, hd⟩ : ∃ d, (R : Int) - R2 = d := ⟨_, rfl⟩
                  have wd : IntKind.i64.wrap d = d := IntWalk.i64_in _ (by omega)
                  obtain ⟨t, ht⟩ : ∃ t, Int.tmod d (g : Int) = t := ⟨_, rfl⟩
                  have htb : -1000 ≤ t ∧ t ≤ 1000 := by
                    have h1 := Int.lt_tmod_of_pos d (b := (g : Int)) (by omega)
                    have h2 := Int.tmod_lt_of_pos d (b := (g : Int)) (by omega)
                    omega
                  have wt : IntKind.i64.wrap t = t := IntWalk.i64_in _ (by omega)
                  have hodt : Hid (odds (R, M) (R2, M2) ↔ t ≠ 0) := odds_tmod (by dsimp only; rw [hd, hg]; exact ht)
                  have hg0I : ¬ ((g : Int) = 0) := by omega
                  clear hg
                  by_cases ht0 : t = 0
                  · have dt : (t != 0) = false := by simpa using ht0
                    have hag2 : Hid (agreeTo ps k ∧ ∀ i b, i < j + 1 → ps[i]? = some b → ¬ odds (R, M) b) := by
                      obtain ⟨h1, h2⟩ := hag.out rfl
                      refine ⟨h1, fun i b hi hb => ?_⟩
                      rcases Nat.lt_or_ge i j with h | h
                      · exact h2 i b h hb
                      · obtain rfl : i = j := by omega
                        rw [HPJ.out] at hb; cases hb
                        intro ho
                        exact hodt.out.1 ho ht0
                    clear ht0
                    go_wp2_with fail
                    go_quiet ((go_at_call 32; (first | exact quiet_at0 (fun W' => HGC.out W') | exact quiet_at (fun W' => HGC.out W'))))
                    go_wp2_with fail
                    go_roundw
                    case rel => exact ⟨j + 1, 0, by go_num, by omega, rfl, .inl rfl, Lib.hid (fun _ => hag2.out), Lib.hid (fun h => by cases h), Lib.hid (below_drewN HB9.out _)⟩
                    case measure => simp [intOf]; omega
                  · have dt : (t != 0) = true := by simpa using ht0
                    have hod2 : Hid (AnyOdds ps) := ⟨k, j, (R, M), (R2, M2), hjk, HPK.out, HPJ.out, hodt.out.2 ht0⟩
                    clear ht0
                    go_wp2_with fail
                    go_quiet ((go_at_call 32; (first | exact quiet_at0 (fun W' => HGC.out W') | exact quiet_at (fun W' => HGC.out W'))))
                    go_wp2_with fail
                    go_roundw
                    case rel => exact ⟨j + 1, 4, by go_num, by omega, rfl, .inr rfl, Lib.hid (fun h => by cases h), Lib.hid (fun _ => hod2.out), Lib.hid (below_drewN HB9.out _)⟩
                    case measure => simp [intOf]; omega
                · have hodx : Hid (AnyOdds ps) := hod.out rfl
                  go_wp2_with fail
                  go_quiet (fail)
                  go_wp2_with fail
                  go_roundw
                  case rel => exact ⟨j + 1, 4, by go_num, by omega, rfl, .inr rfl, Lib.hid (fun h => by cases h), Lib.hid (fun _ => hodx.out), Lib.hid (below_drewN HB9.out _)⟩
                  case measure => simp [intOf]; omega
              · have hag2 : Hid (W = 0 → agreeTo ps (k + 1)) := fun h => by
                  obtain ⟨h1, h2⟩ := hag.out h
                  exact h1.next HPK.out fun i b hi hb => h2 i b (by omega) hb
                have HB9 := Lib.hid (HB8.out.trans (Below.mono hby.out HB8.out.size))
                go_wp2_with fail
                go_roundw
                case rel => exact ⟨k + 1, W, by go_num, by omega, rfl, hW, hag2, hod, HB9⟩
                case measure => simp [intOf]; omega
          · have hW0 : W = 0 := by
              rcases hW with h | h
              · exact h
              · exact (HSYS.out.not_odds (hod.out h)).elim
            subst hW0
            have hxm := HSYS.out.lt
            go_wp2_with fail
            go_loopw [15, 147] (fun va vi wx => ∃ k A : Nat, vi = .int .i64 k ∧ k ≤ zs.length ∧ va = .int .i64 A ∧ Hid (A = lcmF (ps.take k)) ∧ Hid (A ≤ 1000 ^ k) ∧ Hid (Below w.heap.size w wx)) (fun _ vi _ => zs.length - (intOf vi).toNat)
            case atStart => exact ⟨0, 1, rfl, by omega, rfl, rfl, Lib.hid (Nat.le_refl _), hb⟩
            case round =>
              obtain ⟨k, A, rfl, hk, rfl, hA, hAb, hb⟩ := hrel
              by_cases hkl : k < zs.length
              · obtain ⟨z, hz⟩ : ∃ z, zs[k]? = some z := ⟨zs[k]'hkl, List.getElem?_eq_getElem _⟩
                obtain ⟨b3, o3, rfl, c1, c2⟩ := pair_cell (hR.out.below hb.out) hz
                obtain ⟨R, M, rfl, hM1, hM2, hRM, hpk⟩ := natP_get hz (HALL.out z (List.mem_of_getElem? hz))
                rw [HPS.out] at hpk
                dsimp only at c1 c2
                have hA18 : A ≤ 1000000000000000 := Nat.le_trans hAb.out (Nat.le_trans (Nat.pow_le_pow_right (by omega) (show k ≤ 5 by omega)) (by decide))
                obtain ⟨g, hg⟩ : ∃ g, Nat.gcd A M = g := ⟨_, rfl⟩
                have hg0 : 1 ≤ g := by rw [← hg]; exact Nat.gcd_pos_of_pos_right _ (by omega)
                have HGC := Lib.hid (fun W' => gcdOfN A M W' (by omega) (by omega))
                rw [hg] at HGC
                obtain ⟨u, hu⟩ : ∃ u, A / g = u := ⟨_, rfl⟩
                have hu18 : u ≤ A := by rw [← hu]; exact Nat.div_le_self _ _
                have eu : (A : Int) / (g : Int) = (u : Int) := by rw [← hu]; push_cast; rfl
                obtain ⟨v, hv⟩ : ∃ v, u * M = v := ⟨_, rfl⟩
                have hvb : v ≤ A * 1000 := by rw [← hv]; exact Nat.mul_le_mul hu18 hM2
                have ev : (u : Int) * (M : Int) = (v : Int) := by rw [← hv]; push_cast; rfl
                have wu : IntKind.i64.wrap (u : Int) = (u : Int) := IntWalk.i64_in _ (by omega)
                have wv : IntKind.i64.wrap (v : Int) = (v : Int) := IntWalk.i64_in _ (by omega)
                have hnewA : Hid (v = lcmF (ps.take (k + 1))) := by
                  show _ = _
                  rw [List.take_add_one, hpk]
                  show _ = lcmF (ps.take k ++ [(R, M)])
                  rw [lcmF_snoc, ← hA.out, ← lcm_quo', hg, hu, hv]
                have hnewb : Hid (v ≤ 1000 ^ (k + 1)) := by
                  show _ ≤ _
                  rw [Nat.pow_succ]
                  exact Nat.le_trans hvb (Nat.mul_le_mul_right _ hAb.out)
                have hres : x % M = R := HSYS.out.res (R, M) (List.mem_of_getElem? hpk)
                have er : (x : Int) % (M : Int) = (R : Int) := by rw [← hres]; push_cast; rfl
                have eR : ((R : Int) != (R : Int)) = false := by simp
                have wR : IntKind.i64.wrap (R : Int) = (R : Int) := IntWalk.i64_in _ (by omega)
                have hg0I : ¬ ((g : Int) = 0) := by omega
                have hM0I : ¬ ((M : Int) = 0) := by omega
                have cb1 : (wr.alloc (.cells #[.int .i64 R, .int .i64 M] 53)).cell? ⟨wr.heap.size, 0, none⟩ = some (.int .i64 R) := by simp [World.cell?_alloc_new]
                have cb2 : (wr.alloc (.cells #[.int .i64 R, .int .i64 M] 53)).cell? ⟨wr.heap.size, 1, none⟩ = some (.int .i64 M) := by simp [World.cell?_alloc_new]
                have HB9 := Lib.hid (hb.out.alloc hb.out.size (.cells #[.int .i64 R, .int .i64 M] 53))
                clear hz hpk hg hu hv hres
                go_wp2_with fail
                go_quiet ((go_at_call 32; (first | exact quiet_at0 (fun W' => HGC.out W') | exact quiet_at (fun W' => HGC.out W'))))
                go_wp2_with fail
                go_quiet (fail)
                go_wp2_with fail
                go_roundw
                case rel => exact ⟨k + 1, v, by go_num, by omega, rfl, hnewA, hnewb, Lib.hid (by repeat (first | exact HB9.out | apply below_drewN))⟩
                case measure => simp [intOf]; omega
              · have hkk : k = ps.length := by omega
                have hAm : A = m := by rw [hA.out, hkk, List.take_length, HSYS.out.mod]
                subst hAm
                clear hkk
                go_wp2_with fail
                go_ret
                exact ⟨by simp <;> omega, hb.out⟩
  · have HODD := Lib.hid hodd
    clear hodd
    go_wp2_with fail
    refine (HP.out _ HRM1).mono ?_
    rintro e w2 ⟨pa, pl, pc, rfl, hb2, hpp⟩
    have HB2 := Lib.hid (HB1.out.trans (Below.mono hb2 HB1.out.size))
    have HRZ := Lib.hid (HRZ1.out.below hb2)
    have HRM := Lib.hid (HRM1.out.below hb2)
    rw [hpe] at hpp ⊢
    have hpq : pl = ms.length ∧ Reads w2 pa (pairR (ms.map fun m => (n % m, m))) := by
      rcases hpp with ⟨h, _⟩ | ⟨_, h, g⟩
      · exact absurd rfl h
      · exact ⟨h, g⟩
    obtain ⟨rfl, hpr⟩ := hpq
    have HPR := Lib.hid hpr
    clear hb2 hpp hpe hpr HRZ1 HRM1 HB1
    go_wp2_with fail
    refine (HCM.out _ HRM).mono ?_
    rintro e1 w' ⟨rfl, q1, rfl⟩
    go_wp2_with fail
    go_loopw [66] (fun vi wr => ∃ k : Nat, vi = .int .i64 k ∧ k ≤ ms.length ∧ Hid (Below w2.heap.size w2 wr)) (fun vi _ => ms.length - (intOf vi).toNat)
    case atStart => exact ⟨0, rfl, by omega, Lib.hid (below_dr _ _ _)⟩
    case round =>
      obtain ⟨k, rfl, hk, hb⟩ := hrel
      by_cases hkl : k < ms.length
      · obtain ⟨m, hm⟩ : ∃ m, ms[k]? = some m := ⟨ms[k]'hkl, List.getElem?_eq_getElem _⟩
        have hmb := HMS.out m (List.mem_of_getElem? hm)
        have hm1 : 1 ≤ m ∧ m ≤ 1000 := by unfold mBad at hmb; simp only [decide_eq_false_iff_not] at hmb; omega
        obtain ⟨b3, o3, rfl, c3⟩ := (HRM.out.below hb.out) k (.int .i64 m) (by rw [List.getElem?_map, hm]; rfl)
        obtain ⟨b4, o4, rfl, c1, c2⟩ := pair_cell (HPR.out.below hb.out) (k := k) (z := (n % m, m)) (by rw [List.getElem?_map, hm]; rfl)
        dsimp only at c1 c2
        have et : Int.tmod n m = n % m := Int.tmod_eq_emod_of_nonneg (by omega)
        have hnb0 := Int.emod_nonneg n (b := m) (by omega)
        have hnb1 := Int.emod_lt_of_pos n (b := m) (by omega)
        obtain ⟨r, hr⟩ : ∃ r, n % m = r := ⟨_, rfl⟩
        rw [hr] at et hnb0 hnb1 c1
        have wr1 : IntKind.i64.wrap r = r := IntWalk.i64_in _ (by omega)
        have e1 : (m != m) = false := by simp
        have e2 : (r != r) = false := by simp
        have hkI : (k : Int) < ms.length := by omega
        have hk0 : (0 : Int) ≤ k := by omega
        have hm0 : ¬ (m = 0) := by omega
        have cb1 : (wr.alloc (.cells #[.int .i64 r, .int .i64 m] 53)).cell? ⟨wr.heap.size, 0, none⟩ = some (.int .i64 r) := by simp [World.cell?_alloc_new]
        have cb2 : (wr.alloc (.cells #[.int .i64 r, .int .i64 m] 53)).cell? ⟨wr.heap.size, 1, none⟩ = some (.int .i64 m) := by simp [World.cell?_alloc_new]
        have c3' : (wr.alloc (.cells #[.int .i64 r, .int .i64 m] 53)).cell? ⟨b3, o3 + k, none⟩ = some (.int .i64 m) := ((Below.alloc (Below.refl _ wr) (Nat.le_refl _) _).cell (World.block_lt_of_cell? wr _ c3)).trans c3
        have HB3 := Lib.hid (hb.out.alloc hb.out.size (.cells #[.int .i64 r, .int .i64 m] 53))
        have HR0 := Lib.hid hr
        clear hm hmb hr
        go_wp2_with fail
        go_quiet (fail)
        go_wp2_with fail
        go_roundw
        case rel => exact ⟨k + 1, by go_num, by omega, Lib.hid (below_drewN HB3.out _)⟩
        case measure => simp [intOf]; omega
      · have HB5 := Lib.hid (HB2.out.trans (Below.mono hb.out HB2.out.size))
        have HRZ5 := Lib.hid (HRZ.out.below hb.out)
        clear hb HB2 HRZ HRM HPR
        have g1 : decide ((6 : Int) < zs.length) = false := by simp; omega
        have hany : zs.any rBad = false := by
          rw [List.any_eq_false]
          intro z hz
          rw [HALL.out z hz]; decide
        rw [hany] at HCR
        clear hany
        obtain ⟨ps, hps⟩ : ∃ ps, natP zs = ps := ⟨_, rfl⟩
        have HPS := Lib.hid hps
        have hpl : ps.length = zs.length := by rw [← hps, natP_len]
        rw [hps] at HODD
        clear hps
        go_wp2_with fail
        refine (HCR.out _ HRZ5).mono ?_
        rintro e1 w6 ⟨rfl, hb6⟩
        have HB6 := Lib.hid (HB5.out.trans (Below.mono hb6 HB5.out.size))
        have HRZ6 := Lib.hid (HRZ5.out.below hb6)
        clear hb6
        go_wp2_with fail
        refine (HK.out _ HRZ6).mono ?_
        rintro e1 w7 ⟨rfl, hb7⟩
        have HB7 := Lib.hid (HB6.out.trans (Below.mono hb7 HB6.out.size))
        clear hb7
        go_wp2_with fail
        go_loopw [12, 101] (fun vw vi wx => ∃ (k : Nat) (W : Int), vi = .int .i64 k ∧ k ≤ zs.length ∧ vw = .int .i64 W ∧ (W = 0 ∨ W = 4) ∧ Hid (W = 0 → agreeTo ps k) ∧ Hid (W = 4 → AnyOdds ps) ∧ Hid (Below w.heap.size w wx)) (fun _ vi _ => zs.length - (intOf vi).toNat)
        case atStart => exact ⟨0, 0, rfl, by omega, rfl, .inl rfl, Lib.hid (fun _ => by intro i j a b _ hi; omega), Lib.hid (fun h => by cases h), HB7⟩
        case round =>
          obtain ⟨k, W, rfl, hk, rfl, hW, hag, hod, hb⟩ := hrel
          by_cases hkl : k < zs.length
          · obtain ⟨z, hz⟩ : ∃ z, zs[k]? = some z := ⟨zs[k]'hkl, List.getElem?_eq_getElem _⟩
            obtain ⟨b3, o3, rfl, c1, c2⟩ := pair_cell (hR.out.below hb.out) hz
            obtain ⟨R, M, rfl, hM1, hM2, hRM, hpk⟩ := natP_get hz (HALL.out z (List.mem_of_getElem? hz))
            rw [HPS.out] at hpk
            have HPK := Lib.hid hpk
            dsimp only at c1 c2
            have hkc : (k : Int) ≤ cap := by omega
            have hk0 : (0 : Int) ≤ k := by omega
            have HB8 := Lib.hid (hb.out.alloc hb.out.size (.cells #[.int .i64 R, .int .i64 M] 53))
            obtain ⟨wa, hwa⟩ : ∃ wa, wr.alloc (.cells #[.int .i64 R, .int .i64 M] 53) = wa := ⟨_, rfl⟩
            have ca1 : Hid (wa.cell? ⟨wr.heap.size, 0, none⟩ = some (.int .i64 R)) := Lib.hid (by rw [← hwa]; simp [World.cell?_alloc_new])
            have ca2 : Hid (wa.cell? ⟨wr.heap.size, 1, none⟩ = some (.int .i64 M)) := Lib.hid (by rw [← hwa]; simp [World.cell?_alloc_new])
            rw [hwa] at HB8
            have HWA := Lib.hid hwa
            obtain ⟨ba, hba⟩ : ∃ ba, wr.heap.size = ba := ⟨_, rfl⟩
            rw [hba] at ca1 ca2
            have HBA := Lib.hid hba
            clear hz hpk hwa hba
            go_wp2_with fail
            rw [HWA.out, HBA.out]
            go_loopw [12, 110] (fun vw vj wy => ∃ (j : Nat) (W : Int), vj = .int .i64 j ∧ j ≤ k ∧ vw = .int .i64 W ∧ (W = 0 ∨ W = 4) ∧ Hid (W = 0 → agreeTo ps k ∧ ∀ i b, i < j → ps[i]? = some b → ¬ odds (R, M) b) ∧ Hid (W = 4 → AnyOdds ps) ∧ Hid (Below wa.heap.size wa wy)) (fun _ vj _ => k - (intOf vj).toNat)
            case atStart => exact ⟨0, W, rfl, by omega, rfl, hW, Lib.hid (fun h => ⟨hag.out h, fun i b hi => by omega⟩), hod, Below.refl _ _⟩
            case round =>
              obtain ⟨j, W, rfl, hj, rfl, hW, hag, hod, hby⟩ := hrel
              by_cases hjk : j < k
              · obtain ⟨y, hy⟩ : ∃ y, zs[j]? = some y := ⟨zs[j]'(by omega), List.getElem?_eq_getElem _⟩
                obtain ⟨b4, o4, hao, c3, c4⟩ := pair_cell ((hR.out.below HB8.out).below hby.out) hy
                obtain ⟨R2, M2, rfl, hN1, hN2, hRN, hpj⟩ := natP_get hy (HALL.out y (List.mem_of_getElem? hy))
                rw [HPS.out] at hpj
                have HPJ := Lib.hid hpj
                cases hao
                dsimp only at c3 c4
                have cA1 : (wr.alloc (.cells #[.int .i64 R2, .int .i64 M2] 53)).cell? ⟨ba, 0, none⟩ = some (.int .i64 R) := ((Below.alloc (Below.refl _ wr) (Nat.le_refl _) _).cell (World.block_lt_of_cell? wr _ ((hby.out.cell (World.block_lt_of_cell? wa _ ca1.out)).trans ca1.out))).trans ((hby.out.cell (World.block_lt_of_cell? wa _ ca1.out)).trans ca1.out)
                have cA2 : (wr.alloc (.cells #[.int .i64 R2, .int .i64 M2] 53)).cell? ⟨ba, 1, none⟩ = some (.int .i64 M) := ((Below.alloc (Below.refl _ wr) (Nat.le_refl _) _).cell (World.block_lt_of_cell? wr _ ((hby.out.cell (World.block_lt_of_cell? wa _ ca2.out)).trans ca2.out))).trans ((hby.out.cell (World.block_lt_of_cell? wa _ ca2.out)).trans ca2.out)
                have cB1 : (wr.alloc (.cells #[.int .i64 R2, .int .i64 M2] 53)).cell? ⟨wr.heap.size, 0, none⟩ = some (.int .i64 R2) := by simp [World.cell?_alloc_new]
                have cB2 : (wr.alloc (.cells #[.int .i64 R2, .int .i64 M2] 53)).cell? ⟨wr.heap.size, 1, none⟩ = some (.int .i64 M2) := by simp [World.cell?_alloc_new]
                have HB9 := Lib.hid (hby.out.alloc hby.out.size (.cells #[.int .i64 R2, .int .i64 M2] 53))
                clear hy hpj
                rcases hW with rfl | rfl
                · obtain ⟨g, hg⟩ : ∃ g, Nat.gcd M M2 = g := ⟨_, rfl⟩
                  have hg0 : 1 ≤ g := by rw [← hg]; exact Nat.gcd_pos_of_pos_right _ (by omega)
                  have hgM : g ≤ M2 := by rw [← hg]; exact Nat.gcd_le_right _ (by omega)
                  have HGC := Lib.hid (fun W' => gcdOfN M M2 W' (by omega) (by omega))
                  rw [hg] at HGC
                  obtain ⟨d, hd⟩ : ∃ d, (R : Int) - R2 = d := ⟨_, rfl⟩
                  have wd : IntKind.i64.wrap d = d := IntWalk.i64_in _ (by omega)
                  obtain ⟨t, ht⟩ : ∃ t, Int.tmod d (g : Int) = t := ⟨_, rfl⟩
                  have htb : -1000 ≤ t ∧ t ≤ 1000 := by
                    have h1 := Int.lt_tmod_of_pos d (b := (g : Int)) (by omega)
                    have h2 := Int.tmod_lt_of_pos d (b := (g : Int)) (by omega)
                    omega
                  have wt : IntKind.i64.wrap t = t := IntWalk.i64_in _ (by omega)
                  have hodt : Hid (odds (R, M) (R2, M2) ↔ t ≠ 0) := odds_tmod (by dsimp only; rw [hd, hg]; exact ht)
                  have hg0I : ¬ ((g : Int) = 0) := by omega
                  clear hg
                  by_cases ht0 : t = 0
                  · have dt : (t != 0) = false := by simpa using ht0
                    have hag2 : Hid (agreeTo ps k ∧ ∀ i b, i < j + 1 → ps[i]? = some b → ¬ odds (R, M) b) := by
                      obtain ⟨h1, h2⟩ := hag.out rfl
                      refine ⟨h1, fun i b hi hb => ?_⟩
                      rcases Nat.lt_or_ge i j with h | h
                      · exact h2 i b h hb
                      · obtain rfl : i = j := by omega
                        rw [HPJ.out] at hb; cases hb
                        intro ho
                        exact hodt.out.1 ho ht0
                    clear ht0
                    go_wp2_with fail
                    go_quiet ((go_at_call 32; (first | exact quiet_at0 (fun W' => HGC.out W') | exact quiet_at (fun W' => HGC.out W'))))
                    go_wp2_with fail
                    go_roundw
                    case rel => exact ⟨j + 1, 0, by go_num, by omega, rfl, .inl rfl, Lib.hid (fun _ => hag2.out), Lib.hid (fun h => by cases h), Lib.hid (below_drewN HB9.out _)⟩
                    case measure => simp [intOf]; omega
                  · have dt : (t != 0) = true := by simpa using ht0
                    have hod2 : Hid (AnyOdds ps) := ⟨k, j, (R, M), (R2, M2), hjk, HPK.out, HPJ.out, hodt.out.2 ht0⟩
                    clear ht0
                    go_wp2_with fail
                    go_quiet ((go_at_call 32; (first | exact quiet_at0 (fun W' => HGC.out W') | exact quiet_at (fun W' => HGC.out W'))))
                    go_wp2_with fail
                    go_roundw
                    case rel => exact ⟨j + 1, 4, by go_num, by omega, rfl, .inr rfl, Lib.hid (fun h => by cases h), Lib.hid (fun _ => hod2.out), Lib.hid (below_drewN HB9.out _)⟩
                    case measure => simp [intOf]; omega
                · have hodx : Hid (AnyOdds ps) := hod.out rfl
                  go_wp2_with fail
                  go_quiet (fail)
                  go_wp2_with fail
                  go_roundw
                  case rel => exact ⟨j + 1, 4, by go_num, by omega, rfl, .inr rfl, Lib.hid (fun h => by cases h), Lib.hid (fun _ => hodx.out), Lib.hid (below_drewN HB9.out _)⟩
                  case measure => simp [intOf]; omega
              · have hag2 : Hid (W = 0 → agreeTo ps (k + 1)) := fun h => by
                  obtain ⟨h1, h2⟩ := hag.out h
                  exact h1.next HPK.out fun i b hi hb => h2 i b (by omega) hb
                have HB9 := Lib.hid (HB8.out.trans (Below.mono hby.out HB8.out.size))
                go_wp2_with fail
                go_roundw
                case rel => exact ⟨k + 1, W, by go_num, by omega, rfl, hW, hag2, hod, HB9⟩
                case measure => simp [intOf]; omega
          · have hW4 : W = 4 := by
              rcases hW with h | h
              · exact ((hag.out h).no (by omega) HODD.out).elim
              · exact h
            subst hW4
            go_wp2_with fail
            go_ret
            exact ⟨by simp, hb.out⟩

theorem chineseSays_walk (ao : Option Addr) (ln cap : Nat) (zs : List (Int × Int)) (n : Int) (bo : Option Addr) (lm cap2 : Nat) (ms : List Int) (w : World) (h1 : PairsIn .i64 .i64 w ao ln zs ∧ CapOk ao ln cap) (hn : (Lit.int .i64 n).wf = true) (h2 : IntsIn .i64 w bo lm ms ∧ CapOk bo lm cap2) :
    Calls Try.prog 5 #[.slice ao ln cap, .int .i64 n, .slice bo lm cap2] w fun e w' => e = .returned (.bool true) ∧ Below w.heap.size w w' := by
  have hnb : n ≤ 9223372036854775807 := by
    have : -9223372036854775808 ≤ n ∧ n ≤ 9223372036854775807 := by simpa [Lit.wf, IntKind.min, IntKind.max, IntKind.signed, IntKind.bits] using hn
    exact this.2
  obtain ⟨h1, hco⟩ := h1
  obtain ⟨h2, hco2⟩ := h2
  obtain rfl := h1.1
  obtain rfl := h2.1
  by_cases a1 : n < 0
  · by_cases hz : chinE zs = 0
    · exact chineseSays_neg_z ao cap zs n bo cap2 ms w h1 hco h2 hnb hz a1
    · exact chineseSays_neg_e ao cap zs n bo cap2 ms w h1 hco h2 hnb hz a1
  · by_cases a2 : 6 < ms.length
    · by_cases hz : chinE zs = 0
      · exact chineseSays_six_z ao cap zs n bo cap2 ms w h1 hco h2 hnb hz a1 a2
      · exact chineseSays_six_e ao cap zs n bo cap2 ms w h1 hco h2 hnb hz a1 a2
    · cases a3 : ms.any mBad
      · by_cases hz : chinE zs = 0
        · exact chineseSays_ok_z ao cap zs n bo cap2 ms w h1 hco h2 hnb hz a1 a2 a3
        · exact chineseSays_ok_e ao cap zs n bo cap2 ms w h1 hco h2 hnb hz a1 a2 a3
      · by_cases hz : chinE zs = 0
        · exact chineseSays_bad_z ao cap zs n bo cap2 ms w h1 hco h2 hnb hz a1 a2 a3
        · exact chineseSays_bad_e ao cap zs n bo cap2 ms w h1 hco h2 hnb hz a1 a2 a3
end Go.Proofs.Ytkincmkmkfiglaa
