/- TopHamming: the law's walk. -/
import Derived.Test.YtmeffbooabionaaHamL
import Derived.Test.YtmeffbooabionaaHamming
import Derived.Test.YtmeffbooabionaaHmM17
import Derived.Test.YtmeffbooabionaaLinQ
set_option linter.unusedVariables false
set_option linter.unusedSimpArgs false
namespace Go.Proofs.Ytmeffbooabionaa
open Go.RowKit

/-- The words of the data. -/
def hamOf (xs : List Nat) : List Nat := xs.map fun x => hput (x % 256)
theorem hamOf_fact (xs : List Nat) : ∀ g ∈ hamOf xs, g < 2 ^ 12 ∧ hsum g = 0 := by
  intro g hg
  obtain ⟨x, _, rfl⟩ := List.mem_map.1 hg
  have h := hput_all256 ⟨x % 256, Nat.mod_lt _ (by decide)⟩
  exact ⟨h, (hput_ok (show x % 256 < 2048 by omega)).2.1⟩
set_option maxRecDepth 100000 in
set_option maxHeartbeats 16000000 in
theorem topHamming_walk (ao : Option Addr) (m cap : Nat) (zs : List Int) (w : World) (h : IntsIn .u16 w ao m zs ∧ CapOk ao m cap) :
    Calls Try.prog 6 #[.slice ao m cap] w fun e w' => e = .returned (.bool true) ∧ Below w.heap.size w w' := by
  obtain ⟨xs, hl, h63, hlt, hR0⟩ := natsIn h.1
  have hR : Hid (Reads w ao (cellsU xs)) := hR0
  have HL := Lib.hid hl
  have HLT : Hid (∀ x ∈ xs, x < 65536) := hlt
  have HWK := Lib.hid (fun W => top_works W)
  by_cases h4 : 4 < m
  · have z4 : (4 : Int) < (m : Int) := by omega
    clear h zs hR0 hl hlt
    go_enter Try.func6, Try.ntmps6
    go_wp2_with (first
      | (go_at_call 29; (refine (HWK.out w1).mono ?_); rintro e w2 ⟨rfl, hb2⟩)
      | (go_at_call 29; (refine (HWK.out w).mono ?_); rintro e w1 ⟨rfl, hb1⟩)
      | fail)
    go_ret
    exact ⟨rfl, hb1.trans (hb2.mono hb1.size)⟩
  · have z4 : ¬ ((4 : Int) < (m : Int)) := by omega
    have hm4 : m ≤ 4 := by omega
    obtain ⟨l, hll⟩ : ∃ l, hamOf xs = l := ⟨_, rfl⟩
    have hlm : l.length = m := by rw [← hll]; unfold hamOf; rw [List.length_map]; exact hl
    have hfact : ∀ g ∈ l, g < 2 ^ 12 ∧ hsum g = 0 := by rw [← hll]; exact hamOf_fact xs
    have hl16 : ∀ g ∈ l, g < 65536 := fun g hg => Nat.lt_of_lt_of_le (hfact g hg).1 (by decide)
    have hE : wordE 12 l = 0 := by
      unfold wordE
      rw [if_neg (by omega), if_neg (by omega), if_neg]
      rw [Bool.not_eq_true, List.any_eq_false]
      intro x hx
      have := (hfact x hx).1
      simp only [decide_eq_true_eq]
      show ¬ 2 ^ 12 ≤ x
      omega
    have CW := Lib.hid (fun a c W hr => lin_Words 12 l a m c W hlm (by omega) hl16 hr)
    have CB := Lib.hid (fun a c W hr => lin_Base 12 l a m c W hlm (by omega) hl16 hr)
    have CF := Lib.hid (fun a c W hr => lin_Far 12 l a m c W (by omega) (by omega) hlm (by omega) hE hr)
    rw [hE, if_pos rfl] at CW CB
    have hfar := ham_far (fun g hg => (hfact g hg).1) (fun g hg => (hfact g hg).2)
    have hpow := words_pow hl16
    have hWs : ∀ x ∈ wordsL l, x < 4096 ∧ hsum x = 0 := fun x hx => ⟨allX_lt (n := 12) (fun g hg => (hfact g hg).1) x ((mem_wordsL l x).1 hx), ham_words (fun g hg => (hfact g hg).2) x hx⟩
    have hb4 : (baseL l).length ≤ 4 := Nat.le_trans (baseL_len l) (by omega)
    unfold WordPost2 at CW CB
    obtain ⟨W, hW⟩ : ∃ W, wordsL l = W := ⟨_, rfl⟩
    rw [hW] at CW CF hfar hpow hWs
    obtain ⟨b, hb⟩ : ∃ b, (baseL l).length = b := ⟨_, rfl⟩
    rw [hb] at CB hfar hpow hb4
    obtain ⟨P, hP⟩ : ∃ P, W.length = P := ⟨_, rfl⟩
    have HP := Lib.hid hP
    rw [hP] at CW hpow
    have hP16 : P ≤ 16 := by rw [hpow]; exact Nat.le_trans (Nat.pow_le_pow_right (by omega) hb4) (by decide)
    have eP : (2 : Int) ^ b = (P : Int) := by rw [hpow, Int.natCast_pow]; rfl
    have wP : IntKind.i64.wrap ((2 : Int) ^ b) = (P : Int) := by rw [eP]; exact IntWalk.i64_in _ (by omega)
    obtain ⟨F1, F2, hF⟩ : ∃ F1 F2, farN 12 W 1 13 = (F1, F2) := ⟨_, _, rfl⟩
    rw [hF] at hfar
    rw [show farN 12 W 1 (12 + 1) = (F1, F2) from hF] at CF
    simp only [] at CF hfar
    have HFAR := Lib.hid hfar
    have HWS := Lib.hid hWs
    have HLL := Lib.hid hll
    have HLM := Lib.hid hlm
    have CG2 : Hid (∀ ao X wb, Below wb.heap.size wb X → Reads X ao [.int .i64 0, .int .i64 0] → Calls Try.prog 31 #[.slice ao 2 2] X fun e w' => e = .returned (.bool true) ∧ Below wb.heap.size wb w') := fun ao X wb hb h => (good_two ao 2 X h).mono fun e w' ⟨h1, m, h2⟩ => ⟨h1, by rw [h2]; exact below_drewN hb m⟩
    clear h zs hR0 hl hlt hfact hl16 hE hfar hpow hWs hW hb hP hF hll hlm
    go_enter Try.func6, Try.ntmps6
    go_wp2_with (first
      | (go_at_call 29; (refine (HWK.out w).mono ?_); rintro e w1 ⟨rfl, hb1⟩)
      | fail)
    have HB1 := Lib.hid hb1
    clear hb1
    go_loopw [3, 29] (fun vo vj wr => ∃ (j : Nat), vj = .int .i64 j ∧ j ≤ m ∧ Hid (wr.ownsRow w.heap.size 29 1 vo j (cellsU (hamOf (xs.take j)))) ∧ Hid (Below w.heap.size w wr)) (fun _ vj _ => m - (intOf vj).toNat)
    case atStart => exact ⟨0, rfl, Nat.zero_le _, World.ownsRow_nil _ _ _ _, HB1⟩
    case round =>
      obtain ⟨j, rfl, hj, hO, hB⟩ := hrel
      obtain ⟨wo, rfl⟩ : ∃ wo, wo = wr := ⟨_, rfl⟩
      by_cases hjm : j < m
      · obtain ⟨x, hx⟩ : ∃ x, xs[j]? = some x := ⟨xs[j]'(by rw [HL.out]; exact hjm), List.getElem?_eq_getElem _⟩
        have hxl := HLT.out x (List.mem_of_getElem? hx)
        obtain ⟨b2, o2, hab, hc⟩ := (hR.out.below hB.out) j (.int .u16 (x : Int)) (cellsU_get hx)
        obtain ⟨d, hd⟩ : ∃ d, x % 256 = d := ⟨_, rfl⟩
        have hd2 : d < 256 := by omega
        have eand : bits .and .u16 (x : Int) 255 = (d : Int) := by
          have h := u16_and_nat x 255 hxl (by omega)
          rw [show ((255 : Nat) : Int) = 255 from rfl] at h
          rw [h, Nat.and_two_pow_sub_one_eq_mod x 8, ← hd]
        have CH := Lib.hid (fun W' => hamming_Put d W' (by omega))
        obtain ⟨y, hy⟩ : ∃ y, hput d = y := ⟨_, rfl⟩
        rw [hy] at CH
        have HT : Hid (hamOf (xs.take (j + 1)) = hamOf (xs.take j) ++ [y]) := by rw [app_take hx]; unfold hamOf; rw [List.map_append, ← hy, ← hd]; trivial
        have hjz : (j : Int) < (m : Int) := by omega
        have hSZ : Hid (w.heap.size ≤ wo.heap.size) := hB.out.size
        subst hab
        clear hx hd hy
        go_wp2_with (first
          | (go_at_call 30; (refine (CH.out _).mono ?_); rintro e w2 ⟨rfl, rfl⟩)
          | (at_builtin; go_must (refine app_one2 rfl (.tmp 41) (.tmp 43) 22 rfl w.heap.size 29 _ 1 2 Try.underlying22 u16Info u3 j (cellsU (hamOf (xs.take j))) (by rfl) hO.out [.int .u16 (y : Int)] (by rfl) rfl (by intro u hu; simp at hu; subst hu; rfl) (by unfold maxLen; omega) (by omega) hSZ.out ?_); intro v1 w1 hl1 hg1 hb1 hk1)
          | fail)
        go_roundw
        case rel =>
          refine ⟨j + 1, by go_num, by omega, ?_, hB.out.trans hb1⟩
          show World.ownsRow _ _ _ _ _ _ _
          rw [HT.out, cellsU_app]
          exact hl1
        case measure => simp [intOf]; omega
      · obtain rfl : m = j := by omega
        have hT : hamOf (xs.take m) = l := by rw [List.take_of_length_le (by rw [HL.out]; exact Nat.le_refl _)]; exact HLL.out
        rw [hT] at hO
        obtain ⟨la, lc, rfl, hRl, hln, _, _⟩ := own_dataK hO.out
        have HRl := Lib.hid hRl
        clear hT hRl hln
        go_upto_region 16 with (first
          | (go_at_call 13; (refine (CW.out la lc _ HRl.out).mono ?_); rintro e w2 ⟨a2, rfl, hn2, hp2, hR2, hb2⟩)
          | (go_at_call 14; (refine (CB.out la lc _ (HRl.out.below hb2)).mono ?_); rintro e w3 ⟨a3, rfl, hn3, hp3, hR3, hb3⟩; have hB3 := Lib.hid (hB.out.trans ((hb2.trans (hb3.mono hb2.size)).mono hB.out.size)); have hR2b := Lib.hid (hR2.below hb3); have hRlb := Lib.hid ((HRl.out.below hb2).below hb3))
          | (go_at_call 31; (refine (CG2.out _ _ w3 (Below.alloc (Below.refl _ _) (Nat.le_refl _) _) (reads_new w3 _ _)).mono ?_); rintro e w4 ⟨rfl, hb4⟩; have hB4 := Lib.hid (hB3.out.trans (hb4.mono hB3.out.size)); have hR2c := Lib.hid (hR2b.out.below hb4); have hRlc := Lib.hid (hRlb.out.below hb4))
          | fail)
        clear hp2 hp3 hR2 hR3 hb2 hb3
        go_wp2_with fail
        go_loopw [71] (fun vk wr => ∃ (k : Nat), vk = .int .i64 k ∧ k ≤ P ∧ w4 = wr) (fun vk _ => P - (intOf vk).toNat)
        case atStart => exact ⟨0, rfl, Nat.zero_le _, rfl⟩
        case round =>
          obtain ⟨k, rfl, hk, rfl⟩ := hrel
          by_cases hkP : k < P
          · obtain ⟨x, hx⟩ : ∃ x, W[k]? = some x := ⟨W[k]'(by rw [HP.out]; exact hkP), List.getElem?_eq_getElem _⟩
            obtain ⟨hx1, hx2⟩ := HWS.out x (List.mem_of_getElem? hx)
            obtain ⟨b5, o5, hab, hc⟩ := hR2c.out k (.int .u16 (x : Int)) (cellsU_get hx)
            have CH := Lib.hid (fun W' => hamming_Get x W' (by omega))
            rw [hx2] at CH
            have hkz : (k : Int) < (P : Int) := by omega
            obtain ⟨dd, hdd⟩ : ∃ dd, hdata (turn x 0) = dd := ⟨_, rfl⟩
            rw [hdd] at CH
            subst hab
            clear hx hdd hx2
            go_wp2_with (first
              | (go_at_call 32; (refine (CH.out _).mono ?_); rintro e w6 ⟨rfl, rfl⟩)
              | fail)
            go_roundw
            case rel => exact ⟨k + 1, by go_num, by omega, by first | rfl | trivial⟩
            case measure => simp [intOf]; omega
          · obtain rfl : P = k := by omega
            rcases HFAR.out with ⟨rfl, rfl⟩ | ⟨rfl, f1⟩
            · go_wp2_with (first
                | (go_at_call 16; (refine (CF.out la lc _ hRlc.out).mono ?_); rintro e w7 ⟨rfl, hb7⟩)
                | fail)
              go_ret
              exact ⟨rfl, hB4.out.trans (hb7.mono hB4.out.size)⟩
            · have f1z : (3 : Int) ≤ (F1 : Int) := by omega
              go_wp2_with (first
                | (go_at_call 16; (refine (CF.out la lc _ hRlc.out).mono ?_); rintro e w7 ⟨rfl, hb7⟩)
                | fail)
              go_ret
              exact ⟨rfl, hB4.out.trans (hb7.mono hB4.out.size)⟩
end Go.Proofs.Ytmeffbooabionaa
