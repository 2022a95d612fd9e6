/- The reference's BaseOf: its walk. -/
import Derived.Test.YtmeffbooabionaaLinF
set_option linter.unusedVariables false
set_option linter.unusedSimpArgs false
namespace Go.Proofs.Ytmeffbooabionaa
open Go.RowKit

/-- The highest bits of the words, together. -/
def headsN (W : List Nat) : Nat := W.foldl (fun H w => if w = 0 then H else H ||| 2 ^ hiN w) 0
theorem headsN_snoc (W : List Nat) (x : Nat) : headsN (W ++ [x]) = if x = 0 then headsN W else headsN W ||| 2 ^ hiN x := by unfold headsN; rw [List.foldl_append]; rfl
theorem headsN_lt {W : List Nat} : (∀ x ∈ W, x < 65536) → headsN W < 65536 :=
  snoc_ind (P := fun W => (∀ x ∈ W, x < 65536) → headsN W < 65536) (fun _ => by decide) (fun W x ih h => by
    rw [headsN_snoc]
    have ih' := ih (fun y hy => h y (by simp [hy]))
    split
    · exact ih'
    · exact Nat.or_lt_two_pow (n := 16) ih' (Nat.pow_lt_pow_right (by omega) (hi_lt (by omega) (h x (by simp))))) W
/-- The words that have place k alone of the heads. -/
def selB (H k : Nat) (x : Nat) : Bool := H.testBit k && decide (x &&& H = 2 ^ k)
/-- From place 15 down: d places. -/
def dnB (H : Nat) (W : List Nat) : Nat → List Nat
  | 0 => []
  | d + 1 => dnB H W d ++ W.filter (selB H (15 - d))
def baseOfN (W : List Nat) : List Nat := dnB (headsN W) W 16
theorem dnB_len (H : Nat) (W : List Nat) : ∀ d, (dnB H W d).length ≤ d * W.length := by
  intro d
  induction d with
  | zero => simp [dnB]
  | succ d ih =>
    unfold dnB
    rw [List.length_append, Nat.succ_mul]
    have := List.length_filter_le (selB H (15 - d)) W
    omega
theorem two_lt16 {k : Nat} (h : k < 16) : 2 ^ k < 65536 := Nat.pow_lt_pow_right (by omega) h
theorem wrap_two16 (k : Nat) (hk : k < 16) : IntKind.u16.wrap ((2 : Int) ^ k) = ((2 ^ k : Nat) : Int) := by
  have h := two_lt16 hk
  rw [show ((2 : Int) ^ k) = ((2 ^ k : Nat) : Int) by push_cast; rfl]
  exact wrap_u16 _ h
set_option maxRecDepth 100000 in
set_option maxHeartbeats 8000000 in
theorem ref_BaseOf (m : Nat) (W : List Nat) (ao : Option Addr) (ca : Nat) (w : World) (hl : W.length = m) (hm : m ≤ 5000) (hlt : ∀ x ∈ W, x < 65536) (hR : Hid (Reads w ao (cellsU W))) :
    Calls Try.prog 10 #[.slice ao m ca] w (AllPost (baseOfN W) w) := by
  have HL := Lib.hid hl
  have HLT : Hid (∀ x ∈ W, x < 65536) := hlt
  clear hl hlt
  go_enter Try.func10, Try.ntmps10
  go_wp2_with fail
  go_loopw [3, 13] (fun vh vj wr => ∃ (j H : Nat), vh = .int .u16 H ∧ vj = .int .i64 j ∧ j ≤ m ∧ H < 65536 ∧ Hid (headsN (W.take j) = H) ∧ w = wr) (fun _ vj _ => m - (intOf vj).toNat)
  case atStart => exact ⟨0, 0, rfl, rfl, Nat.zero_le _, by decide, rfl, rfl⟩
  case round =>
    obtain ⟨j, H, rfl, rfl, hj, hH, hHe, rfl⟩ := hrel
    by_cases hjm : j < m
    · obtain ⟨x, hx⟩ : ∃ x, W[j]? = some x := ⟨W[j]'(by rw [HL.out]; exact hjm), List.getElem?_eq_getElem _⟩
      have hxl := HLT.out x (List.mem_of_getElem? hx)
      obtain ⟨b, o, hab, hc⟩ := hR.out j (.int .u16 (x : Int)) (cellsU_get hx)
      subst hab
      have CH := Lib.hid (fun W' => ref_High x W' hxl)
      have hS := (congrArg headsN (app_take hx)).trans (headsN_snoc _ _)
      rw [hHe.out] at hS
      have hjz : (j : Int) < (m : Int) := by omega
      by_cases hx0 : x = 0
      · subst hx0
        rw [if_pos rfl] at hS
        have HS := Lib.hid hS
        rw [show hiI 0 = -1 from rfl] at CH
        clear hS hx
        go_wp2_with (first | (go_at_call 40; (refine (CH.out _).mono ?_); rintro e w' ⟨rfl, rfl⟩) | fail)
        go_roundw
        case rel => exact ⟨j + 1, H, rfl, by go_num, by omega, hH, HS, by first | rfl | trivial⟩
        case measure => simp [intOf]; omega
      · rw [if_neg hx0] at hS
        have hk16 := hi_lt (by omega) hxl
        rw [show hiI x = (hiN x : Int) by unfold hiI; rw [if_neg hx0]] at CH
        obtain ⟨k, hk⟩ : ∃ k, hiN x = k := ⟨_, rfl⟩
        rw [hk] at hS CH hk16
        have hkz : (0 : Int) ≤ (k : Int) := by omega
        obtain ⟨T, hT⟩ : ∃ T, 2 ^ k = T := ⟨_, rfl⟩
        have eT : (2 : Int) ^ k = (T : Int) := by rw [← hT, Int.natCast_pow]; rfl
        have hTl : T < 65536 := by rw [← hT]; exact two_lt16 hk16
        have wT := wrap_u16 T hTl
        have wT2 := wrap_two16 k hk16
        rw [hT] at hS wT2
        obtain ⟨H2, hH2⟩ : ∃ H2, H ||| T = H2 := ⟨_, rfl⟩
        have eor : bits .or .u16 (H : Int) (T : Int) = (H2 : Int) := by rw [u16_or_nat H T hH hTl, hH2]
        have hH2l : H2 < 65536 := by rw [← hH2]; exact Nat.or_lt_two_pow (n := 16) hH hTl
        have HS := Lib.hid (hS.trans hH2)
        clear hS hx hx0 hk hT hH2
        go_wp2_with (first | (go_at_call 40; (refine (CH.out _).mono ?_); rintro e w' ⟨rfl, rfl⟩) | fail)
        go_roundw
        case rel => exact ⟨j + 1, H2, rfl, by go_num, by omega, hH2l, HS, by first | rfl | trivial⟩
        case measure => simp [intOf]; omega
    · obtain rfl : m = j := by omega
      have hT : W.take m = W := List.take_of_length_le (by rw [HL.out]; exact Nat.le_refl _)
      rw [hT] at hHe
      have HBO : Hid (baseOfN W = dnB H W 16) := by unfold baseOfN; rw [hHe.out]; trivial
      clear hT hHe
      go_wp2_with fail
      go_loopw [7, 8] (fun vo vk wr => ∃ (d : Nat), vk = .int .i64 (15 - (d : Int)) ∧ d ≤ 16 ∧ Hid (wr.ownsRow w.heap.size 29 1 vo (dnB H W d).length (cellsU (dnB H W d))) ∧ Hid (Below w.heap.size w wr)) (fun _ vk _ => (intOf vk + 1).toNat)
      case atStart => exact ⟨0, rfl, Nat.zero_le _, World.ownsRow_nil _ _ _ _, Below.refl _ _⟩
      case round =>
        obtain ⟨d, rfl, hd, hO, hB⟩ := hrel
        by_cases hd16 : d < 16
        · obtain ⟨k, hk⟩ : ∃ k, 15 - d = k := ⟨_, rfl⟩
          have ek : (15 : Int) - (d : Int) = (k : Int) := by omega
          have hk16 : k < 16 := by omega
          have hkz : (0 : Int) ≤ (k : Int) := by omega
          have hbit := bitU H k hH
          have HK : Hid (dnB H W (d + 1) = dnB H W d ++ W.filter (selB H k)) := by rw [← hk]; exact rfl
          have hDL := dnB_len H W d
          rw [HL.out] at hDL
          have hDL2 : d * m ≤ 15 * 5000 := Nat.mul_le_mul (by omega) hm
          obtain ⟨D, hD⟩ : ∃ D, (dnB H W d).length = D := ⟨_, rfl⟩
          rw [hD] at hO hDL
          have HDn := Lib.hid hD
          obtain ⟨T, hT⟩ : ∃ T, 2 ^ k = T := ⟨_, rfl⟩
          have HT := Lib.hid hT
          have eT : (2 : Int) ^ k = (T : Int) := by rw [← hT, Int.natCast_pow]; rfl
          have hTl : T < 65536 := by rw [← hT]; exact two_lt16 hk16
          have wT := wrap_u16 T hTl
          have wT2 := wrap_two16 k hk16
          rw [hT] at wT2
          rw [eT] at hbit
          rw [ek]
          have HEK := Lib.hid ek
          clear hk hD hT ek
          cases ht : H.testBit k with
          | false =>
            rw [ht, if_neg (by simp)] at hbit
            have hF : Hid (W.filter (selB H k) = []) := by
              refine List.filter_eq_nil_iff.2 fun x _ => ?_
              unfold selB
              rw [ht]
              simp
            clear ht
            obtain ⟨VO, rfl⟩ : ∃ VO, VO = u7 := ⟨_, rfl⟩
            obtain ⟨wo, rfl⟩ : ∃ wo, wo = wr := ⟨_, rfl⟩
            go_wp2_with fail
            go_loopw [7, 32] (fun vo vj wr => ∃ (j : Nat), vj = .int .i64 j ∧ j ≤ m ∧ VO = vo ∧ wo = wr) (fun _ vj _ => m - (intOf vj).toNat)
            case atStart => exact ⟨0, rfl, Nat.zero_le _, rfl, rfl⟩
            case round =>
              obtain ⟨j, rfl, hj, rfl, rfl⟩ := hrel
              by_cases hjm : j < m
              · obtain ⟨x, hx⟩ : ∃ x, W[j]? = some x := ⟨W[j]'(by rw [HL.out]; exact hjm), List.getElem?_eq_getElem _⟩
                obtain ⟨b, o, hab, hc⟩ := (hR.out.below hB.out) j (.int .u16 (x : Int)) (cellsU_get hx)
                subst hab
                have hjz : (j : Int) < (m : Int) := by omega
                clear hx
                go_wp2_with fail
                go_roundw
                case rel => exact ⟨j + 1, by go_num, by omega, by first | rfl | trivial, by first | rfl | trivial⟩
                case measure => simp [intOf]; omega
              · obtain rfl : m = j := by omega
                go_wp2_with fail
                go_roundw
                case rel =>
                  refine ⟨d + 1, by have := HEK.out; go_num, by omega, ?_, hB⟩
                  show World.ownsRow _ _ _ _ _ _ _
                  rw [HK.out, hF.out, List.append_nil, HDn.out]
                  exact hO.out
                case measure => have := HEK.out; (simp [intOf]; try omega)
          | true =>
            rw [ht, if_pos rfl] at hbit
            have hsel : ∀ x, selB H k x = decide (x &&& H = T) := by intro x; unfold selB; rw [ht, HT.out]; rfl
            have HSel := Lib.hid hsel
            clear ht hsel
            go_wp2_with fail
            go_loopw [7, 32] (fun vo vj wr => ∃ (j : Nat), vj = .int .i64 j ∧ j ≤ m ∧ Hid (wr.ownsRow w.heap.size 29 1 vo (D + ((W.take j).filter (selB H k)).length) (cellsU (dnB H W d ++ (W.take j).filter (selB H k)))) ∧ Hid (Below w.heap.size w wr)) (fun _ vj _ => m - (intOf vj).toNat)
            case atStart => exact ⟨0, rfl, Nat.zero_le _, by simpa using hO, hB⟩
            case round =>
              clear hO hB
              obtain ⟨j, rfl, hj, hO, hB⟩ := hrel
              by_cases hjm : j < m
              · obtain ⟨x, hx⟩ : ∃ x, W[j]? = some x := ⟨W[j]'(by rw [HL.out]; exact hjm), List.getElem?_eq_getElem _⟩
                have hxl := HLT.out x (List.mem_of_getElem? hx)
                obtain ⟨b, o, hab, hc⟩ := (hR.out.below hB.out) j (.int .u16 (x : Int)) (cellsU_get hx)
                have HTk := Lib.hid ((congrArg (List.filter (selB H k)) (app_take hx)).trans (List.filter_append _ _))
                have hfl : ((W.take j).filter (selB H k)).length ≤ j := Nat.le_trans (List.length_filter_le _ _) (by rw [List.length_take]; omega)
                obtain ⟨F, hF⟩ : ∃ F, (W.take j).filter (selB H k) = F := ⟨_, rfl⟩
                rw [hF] at hO hfl HTk
                obtain ⟨fl, hfl2⟩ : ∃ fl, F.length = fl := ⟨_, rfl⟩
                rw [hfl2] at hO hfl
                have HFL := Lib.hid hfl2
                subst hab
                have hjz : (j : Int) < (m : Int) := by omega
                obtain ⟨y, hy⟩ : ∃ y, x &&& H = y := ⟨_, rfl⟩
                have eand : bits .and .u16 (x : Int) (H : Int) = (y : Int) := by rw [u16_and_nat x H hxl hH, hy]
                have hsx := HSel.out x
                rw [hy] at hsx
                have hSZ : Hid (w.heap.size ≤ wr.heap.size) := hB.out.size
                by_cases hyT : y = T
                · rw [decide_eq_true hyT] at hsx
                  have HS : Hid ((W.take (j + 1)).filter (selB H k) = F ++ [x]) := by rw [HTk.out]; show F ++ List.filter (selB H k) [x] = _; rw [List.filter_cons_of_pos hsx]; rfl
                  subst hyT
                  have hz : ((y : Int) == (y : Int)) = true := by simp
                  clear hsx hy hx hF hfl2
                  go_wp2_with (at_builtin; go_must (refine app_one2 rfl (.tmp 49) (.tmp 51) 22 rfl w.heap.size 29 _ 1 2 Try.underlying22 u16Info u7 (D + fl) (cellsU (dnB H W d ++ F)) (by rfl) hO.out [.int .u16 (x : Int)] (by rfl) rfl (by intro u hu; simp at hu; subst hu; rfl) (by unfold maxLen; omega) (by omega) hSZ.out ?_); intro v1 w1 hl1 hg1 hb1 hk1)
                  go_roundw
                  case rel =>
                    refine ⟨j + 1, by go_num, by omega, ?_, hB.out.trans hb1⟩
                    show World.ownsRow _ _ _ _ _ _ _
                    rw [HS.out, List.length_append, HFL.out, ← List.append_assoc, cellsU_app]
                    exact hl1
                  case measure => simp [intOf]; omega
                · rw [decide_eq_false hyT] at hsx
                  have HS : Hid ((W.take (j + 1)).filter (selB H k) = F) := by rw [HTk.out]; show F ++ List.filter (selB H k) [x] = _; rw [List.filter_cons_of_neg (by rw [hsx]; simp), List.filter_nil, List.append_nil]
                  have hz : ((y : Int) == (T : Int)) = false := by simp; omega
                  have hz2 : (y == T) = false := by simp; omega
                  clear hsx hy hx hF hfl2 hyT
                  go_wp2_with fail
                  go_roundw
                  case rel =>
                    refine ⟨j + 1, by go_num, by omega, ?_, hB⟩
                    show World.ownsRow _ _ _ _ _ _ _
                    rw [HS.out, HFL.out]
                    exact hO.out
                  case measure => simp [intOf]; omega
              · obtain rfl : m = j := by omega
                have hT : W.take m = W := List.take_of_length_le (by rw [HL.out]; exact Nat.le_refl _)
                rw [hT] at hO
                clear hT
                go_wp2_with fail
                go_roundw
                case rel =>
                  refine ⟨d + 1, by have := HEK.out; go_num, by omega, ?_, hB⟩
                  show World.ownsRow _ _ _ _ _ _ _
                  rw [HK.out, List.length_append, HDn.out]
                  exact hO.out
                case measure => have := HEK.out; (simp [intOf]; try omega)
        · obtain rfl : d = 16 := by omega
          go_wp2_with fail
          go_ret
          exact ⟨_, rfl, by rw [HBO.out]; exact hO.out, hB.out⟩
end Go.Proofs.Ytmeffbooabionaa
