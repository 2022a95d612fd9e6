/- The reference's Ones. -/
import Derived.Test.YtmeffbooabionaaQuorumB
import Derived.Test.YtmeffbooabionaaLinF
set_option linter.unusedVariables false
set_option linter.unusedSimpArgs false
namespace Go.Proofs.Ytmeffbooabionaa
open Go.RowKit

set_option maxRecDepth 100000 in
set_option maxHeartbeats 2000000 in
theorem ref_Ones (a : Nat) (w : World) (ha : a < 65536) :
    Calls Try.prog 18 #[.int .i64 a] w fun e w' => e = .returned (.int .i64 (ones16 a : Nat)) ∧ w = w' := by
  go_enter Try.func18, Try.ntmps18
  go_wp2_with fail
  go_loop [3, 5] (fun vo vk => ∃ k : Nat, vk = .int .i64 k ∧ k ≤ 16 ∧ vo = .int .i64 (onesF a k : Nat)) (fun _ vk => 16 - (intOf vk).toNat)
  case atStart => exact ⟨0, rfl, by omega, rfl⟩
  case round =>
    obtain ⟨k, rfl, hk, rfl⟩ := hrel
    by_cases hk1 : k < 16
    · have b1 := onesF_le a k
      have hn : Hid (onesF a (k + 1) = onesF a k + a / 2 ^ k % 2) := rfl
      obtain ⟨u, hu⟩ : ∃ x, onesF a k = x := ⟨_, rfl⟩
      rw [hu] at b1 hn ⊢
      clear hu
      have e1 : bits .and .i64 ((a : Int) / 2 ^ k) 1 = ((a / 2 ^ k % 2 : Nat) : Int) := by
        have hle : a / 2 ^ k ≤ a := Nat.div_le_self _ _
        have h := i64_and_nat (a / 2 ^ k) 1 (by omega) (by omega)
        rw [Nat.and_one_is_mod] at h
        rw [← h]; push_cast; rfl
      obtain ⟨b, hb⟩ : ∃ x, a / 2 ^ k % 2 = x := ⟨_, rfl⟩
      have hb1 : b < 2 := by omega
      rw [hb] at e1 hn
      clear hb
      go_wp2_with fail
      go_round
      case rel => exact ⟨k + 1, by go_num, by omega, by rw [hn.out]; push_cast; rfl⟩
      case measure => simp [intOf]; omega
    · have hk2 : k = 16 := by omega
      subst hk2
      go_wp2_with fail
      go_ret
      exact ⟨rfl, rfl⟩
end Go.Proofs.Ytmeffbooabionaa
namespace Go.Proofs.Ytmeffbooabionaa
open Go.RowKit

/-- An odd number of bits together. -/
def oddX (y : Nat) (x : Int) : Bool := decide (ones16 (y &&& x.toNat) % 2 = 1)
/-- With none of the words an odd number of bits together. -/
def evenB (W : List Nat) (y : Nat) : Bool := !((W.map fun x : Nat => (x : Int)).any (oddX y))
def crossN (N : Nat) (W : List Nat) : List Nat := (List.range (2 ^ N)).filter (evenB W)
set_option maxRecDepth 100000 in
set_option maxHeartbeats 1000000 in
theorem cross_clo (y b x : Nat) (w : World) (hy : y < 65536) (hx : x < 65536) (hc : w.cell? ⟨b, 0, none⟩ = some (.int .u16 (y : Int))) :
    Calls Try.prog 41 #[.int .u16 (x : Int), .pointer (some ⟨b, 0, none⟩)] w fun e w' => e = .returned (.bool (oddX y (x : Int))) ∧ ∃ n, w' = w.drewN n := by
  obtain ⟨z, hz⟩ : ∃ z, y &&& x = z := ⟨_, rfl⟩
  have e1 : bits .and .u16 (y : Int) (x : Int) = (z : Int) := by rw [u16_and_nat y x hy hx, hz]
  have e2 : bits .and .u16 (x : Int) (y : Int) = (z : Int) := by rw [u16_and_nat x y hx hy, Nat.and_comm, hz]
  have hzl : z < 65536 := by rw [← hz]; exact Nat.and_lt_two_pow (n := 16) _ hx
  have wz : IntKind.i64.wrap (z : Int) = (z : Int) := IntWalk.i64_in _ (by omega)
  have hodd : oddX y (x : Int) = decide (ones16 z % 2 = 1) := by unfold oddX; rw [Int.toNat_natCast, hz]
  rw [hodd]
  have C1 := Lib.hid (fun W => ref_Ones z W hzl)
  obtain ⟨c, hcn⟩ : ∃ c, ones16 z = c := ⟨_, rfl⟩
  rw [hcn] at C1 ⊢
  have hcl : c ≤ 16 := by rw [← hcn]; exact onesF_le z 16
  clear hz hcn hodd
  rcases Nat.mod_two_eq_zero_or_one c with h | h
  · have m1 : Int.tmod (c : Int) 2 = 0 := by rw [Int.tmod_eq_emod_of_nonneg (by omega)]; omega
    have m2 : (c : Int) % 2 = 0 := by omega
    rw [h]
    clear h
    go_enter Try.func41, Try.ntmps41
    go_wp2_with (first | (go_at_call 18; (refine (C1.out _).mono ?_); rintro e w2 ⟨rfl, rfl⟩) | fail)
    go_ret
    exact ⟨rfl, 0, rfl⟩
  · have m1 : Int.tmod (c : Int) 2 = 1 := by rw [Int.tmod_eq_emod_of_nonneg (by omega)]; omega
    have m2 : (c : Int) % 2 = 1 := by omega
    rw [h]
    clear h
    go_enter Try.func41, Try.ntmps41
    go_wp2_with (first | (go_at_call 18; (refine (C1.out _).mono ?_); rintro e w2 ⟨rfl, rfl⟩) | fail)
    go_ret
    exact ⟨rfl, 0, rfl⟩
set_option maxRecDepth 100000 in
set_option maxHeartbeats 1000000 in
theorem dual_clo (y b x : Nat) (w : World) (hy : y < 65536) (hx : x < 65536) (hc : w.cell? ⟨b, 0, none⟩ = some (.int .u16 (y : Int))) :
    Calls Try.prog 35 #[.int .u16 (x : Int), .pointer (some ⟨b, 0, none⟩)] w fun e w' => e = .returned (.bool (oddX y (x : Int))) ∧ ∃ n, w' = w.drewN n := by
  obtain ⟨z, hz⟩ : ∃ z, y &&& x = z := ⟨_, rfl⟩
  have e1 : bits .and .u16 (y : Int) (x : Int) = (z : Int) := by rw [u16_and_nat y x hy hx, hz]
  have e2 : bits .and .u16 (x : Int) (y : Int) = (z : Int) := by rw [u16_and_nat x y hx hy, Nat.and_comm, hz]
  have hzl : z < 65536 := by rw [← hz]; exact Nat.and_lt_two_pow (n := 16) _ hx
  have wz : IntKind.i64.wrap (z : Int) = (z : Int) := IntWalk.i64_in _ (by omega)
  have hodd : oddX y (x : Int) = decide (ones16 z % 2 = 1) := by unfold oddX; rw [Int.toNat_natCast, hz]
  rw [hodd]
  have C1 := Lib.hid (fun W => bits_OnesCount16 z W hzl)
  obtain ⟨c, hcn⟩ : ∃ c, ones16 z = c := ⟨_, rfl⟩
  rw [hcn] at C1 ⊢
  have hcl : c ≤ 16 := by rw [← hcn]; exact onesF_le z 16
  clear hz hcn hodd
  rcases Nat.mod_two_eq_zero_or_one c with h | h
  · have m1 : Int.tmod (c : Int) 2 = 0 := by rw [Int.tmod_eq_emod_of_nonneg (by omega)]; omega
    have m2 : (c : Int) % 2 = 0 := by omega
    rw [h]
    clear h
    go_enter Try.func35, Try.ntmps35
    go_wp2_with (first | (go_at_call 36; (refine (C1.out _).mono ?_); rintro e w2 ⟨rfl, q, rfl⟩) | fail)
    go_ret
    exact ⟨rfl, _, rfl⟩
  · have m1 : Int.tmod (c : Int) 2 = 1 := by rw [Int.tmod_eq_emod_of_nonneg (by omega)]; omega
    have m2 : (c : Int) % 2 = 1 := by omega
    rw [h]
    clear h
    go_enter Try.func35, Try.ntmps35
    go_wp2_with (first | (go_at_call 36; (refine (C1.out _).mono ?_); rintro e w2 ⟨rfl, q, rfl⟩) | fail)
    go_ret
    exact ⟨rfl, _, rfl⟩
set_option maxRecDepth 100000 in
set_option maxHeartbeats 8000000 in
theorem ref_Crosswise (N m : Nat) (W : List Nat) (ao : Option Addr) (ca : Nat) (w : World) (hN1 : 1 ≤ N) (hN : N ≤ 12) (hl : W.length = m) (hm : m ≤ 5000) (hlt : ∀ x ∈ W, x < 65536) (hR : Hid (Reads w ao (cellsU W))) :
    Calls Try.prog 12 #[.int .i64 N, .slice ao m ca] w (AllPost (crossN N W) w) := by
  have HL := Lib.hid hl
  have HXLT : Hid (∀ x ∈ W, x < 65536) := hlt
  have HRX := hR
  unfold crossN
  obtain ⟨P, hP⟩ : ∃ P, 2 ^ N = P := ⟨_, rfl⟩
  have hPl : P ≤ 4096 := by rw [← hP]; exact two_le16 hN
  have eP : (2 : Int) ^ N = (P : Int) := by rw [← hP, Int.natCast_pow]; rfl
  have wP2 : IntKind.u16.wrap ((2 : Int) ^ N) = (P : Int) := by rw [eP]; exact wrap_u16 P (by omega)
  have wP3 : IntKind.u16.wrap (P : Int) = (P : Int) := wrap_u16 P (by omega)
  rw [hP]
  clear hl hlt hP
  go_enter Try.func12, Try.ntmps12
  go_wp2_with fail
  go_loopw [5, 9] (fun vo vj wr => ∃ (j : Nat), vj = .int .u16 j ∧ j ≤ P ∧ Hid (wr.ownsRow w.heap.size 29 1 vo ((List.range j).filter (evenB W)).length (cellsU ((List.range j).filter (evenB W)))) ∧ Hid (Below w.heap.size w wr)) (fun _ vj _ => P - (intOf vj).toNat)
  case atStart => exact ⟨0, rfl, Nat.zero_le _, World.ownsRow_nil _ _ _ _, Below.refl _ _⟩
  case round =>
    obtain ⟨j, rfl, hj, hO, hB⟩ := hrel
    obtain ⟨wo, rfl⟩ : ∃ wo, wo = wr := ⟨_, rfl⟩
    by_cases hjP : j < P
    · have hjz : (j : Int) < (P : Int) := by omega
      have hj16 : j < 65536 := by omega
      obtain ⟨J, hJ⟩ : ∃ J, j + 1 = J := ⟨_, rfl⟩
      have eJ : (j : Int) + 1 = (J : Int) := by omega
      have wJ : IntKind.u16.wrap ((j : Int) + 1) = (J : Int) := by rw [eJ]; exact wrap_u16 J (by omega)
      have HJ := Lib.hid hJ
      have hHS := Lib.hid ((congrArg (List.filter (evenB W)) (List.range_succ (n := j))).trans (List.filter_append _ _))
      rw [show j.succ = J from hJ] at hHS
      obtain ⟨Y, hY⟩ : ∃ Y, (List.range j).filter (evenB W) = Y := ⟨_, rfl⟩
      have hYl : Y.length ≤ j := by rw [← hY]; refine Nat.le_trans (List.length_filter_le _ _) ?_; simp
      rw [hY] at hO hHS
      obtain ⟨yl, hyl⟩ : ∃ yl, Y.length = yl := ⟨_, rfl⟩
      rw [hyl] at hO hYl
      have HYL := Lib.hid hyl
      obtain ⟨w8, hw8⟩ : ∃ w8, wo.alloc (.cells #[.int .u16 (j : Int)] 29) = w8 := ⟨_, rfl⟩
      obtain ⟨b8, hb8⟩ : ∃ b8, wo.heap.size = b8 := ⟨_, rfl⟩
      have c8 : w8.cell? ⟨b8, 0, none⟩ = some (.int .u16 (j : Int)) := by rw [← hw8, ← hb8]; simp
      have hBel8 : Below wo.heap.size wo w8 := by rw [← hw8]; exact Below.alloc (Below.refl _ _) (Nat.le_refl _) _
      have hO8 := Lib.hid (own_below hO.out hBel8)
      have hB8 : Hid (Below w.heap.size w w8) := hB.out.trans (hBel8.mono hB.out.size)
      have hCF : Hid (Calls Try.prog 34 #[.slice ao (W.map fun x : Nat => (x : Int)).length ca, .func (.func 41) #[] #[.pointer (some ⟨b8, 0, none⟩)]] w8 fun e w' => e = .returned (.bool ((W.map fun x : Nat => (x : Int)).any (oddX j))) ∧ ∃ n, w' = w8.drewN n) := by
        refine containsFunc_u16 41 (.pointer (some ⟨b8, 0, none⟩)) (fun x W => by go_simp) (oddX j) (W.map fun x : Nat => (x : Int)) ao ca _ (by rw [List.length_map, HL.out]; omega) (by rw [← cellsU_cast]; exact HRX.out.below hB8.out) ?_
        intro x hx q
        obtain ⟨y, hy, rfl⟩ := List.mem_map.1 hx
        refine (cross_clo j b8 y (w8.drewN q) hj16 (HXLT.out y hy) (show World.cell? _ _ = _ from c8)).mono ?_
        rintro e w' ⟨rfl, n, rfl⟩
        exact ⟨rfl, n, rfl⟩
      rw [List.length_map, HL.out] at hCF
      have hev : evenB W j = !((W.map fun x : Nat => (x : Int)).any (oddX j)) := rfl
      obtain ⟨T, hT⟩ : ∃ T, (W.map fun x : Nat => (x : Int)).any (oddX j) = T := ⟨_, rfl⟩
      rw [hT] at hCF hev
      have HSZ8 : Hid (w.heap.size ≤ w8.heap.size) := hB8.out.size
      clear hBel8 hO hB hY hyl hT hJ
      cases T with
      | false =>
        have HS : Hid ((List.range J).filter (evenB W) = Y ++ [j]) := by rw [hHS.out, List.filter_cons_of_pos (by rw [hev]; rfl), List.filter_nil]; trivial
        clear hev hHS
        go_wp2_with (first
          | (go_at_call 34; (refine hCF.out.mono ?_); rintro e w9 ⟨rfl, q, hw9⟩; have hO9 := Lib.hid (show w9.ownsRow w.heap.size 29 1 u5 yl (cellsU Y) by rw [hw9]; exact own_below hO8.out (below_dr _ _ _)); have hB9 := Lib.hid (show Below w.heap.size w w9 by rw [hw9]; exact below_drewN hB8.out q); have c9 := (show w9.cell? ⟨b8, 0, none⟩ = some (.int .u16 (j : Int)) by rw [hw9]; exact c8); clear hw9)
          | (at_builtin; go_must (refine app_one2 rfl (.tmp 16) (.tmp 18) 22 rfl w.heap.size 29 _ 1 2 Try.underlying22 u16Info u5 yl (cellsU Y) (by rfl) hO9.out [.int .u16 (j : Int)] (by rfl) rfl (by intro u hu; simp at hu; subst hu; rfl) (by unfold maxLen; omega) (by omega) hB9.out.size ?_); intro v1 w1 hl1 hg1 hb1 hk1)
          | fail)
        go_roundw
        case rel =>
          refine ⟨J, by (first | rfl | go_num), by have := HJ.out; omega, ?_, hB9.out.trans hb1⟩
          show World.ownsRow _ _ _ _ _ _ _
          rw [HS.out, List.length_append, HYL.out, cellsU_app]
          exact hl1
        case measure => have := HJ.out; (simp [intOf]; try omega)
      | true =>
        have HS : Hid ((List.range J).filter (evenB W) = Y) := by rw [hHS.out, List.filter_cons_of_neg (by rw [hev]; simp), List.filter_nil, List.append_nil]; trivial
        clear hev hHS
        go_wp2_with (first
          | (go_at_call 34; (refine hCF.out.mono ?_); rintro e w9 ⟨rfl, q, hw9⟩; have hO9 := Lib.hid (show w9.ownsRow w.heap.size 29 1 u5 yl (cellsU Y) by rw [hw9]; exact own_below hO8.out (below_dr _ _ _)); have hB9 := Lib.hid (show Below w.heap.size w w9 by rw [hw9]; exact below_drewN hB8.out q); clear hw9)
          | fail)
        go_roundw
        case rel =>
          refine ⟨J, by (first | rfl | go_num), by have := HJ.out; omega, ?_, hB9⟩
          show World.ownsRow _ _ _ _ _ _ _
          rw [HS.out, HYL.out]
          exact hO9.out
        case measure => have := HJ.out; (simp [intOf]; try omega)
    · obtain rfl : P = j := by omega
      go_wp2_with fail
      go_ret
      exact ⟨_, rfl, hO.out, hB.out⟩

def DualPost (xs : List Nat) (E : Int) (w : World) (e : Ending) (w' : World) : Prop := WordPost2 xs E w e w'
set_option maxRecDepth 100000 in
set_option maxHeartbeats 8000000 in
theorem lin_Dual (N m : Nat) (l : List Nat) (ao : Option Addr) (ca : Nat) (w : World) (hN1 : 1 ≤ N) (hN : N ≤ 12) (hl : l.length = m) (hm : m ≤ 6) (hE : wordE N l = 0) (hR : Hid (Reads w ao (cellsU l))) :
    Calls Try.prog 7 #[.int .i64 N, .slice ao m ca] w (if 6 + (baseL l).length < N then WordPost2 [] 2 w else WordPost2 (baseL (crossN N l)) 0 w) := by
  obtain ⟨_, _, _, hltN⟩ := wordE_zero hE
  rw [Int.toNat_natCast] at hltN
  have hlt : ∀ x ∈ l, x < 65536 := fun x hx => Nat.lt_of_lt_of_le (hltN x hx) (Nat.le_trans (two_le16 hN) (by decide))
  have HL := Lib.hid hl
  have HXLT : Hid (∀ x ∈ l, x < 65536) := hlt
  have C1 := Lib.hid (lin_Check N l ao m ca w hl (by omega) hlt hR)
  rw [hE] at C1
  have C2 := Lib.hid (fun W h => lin_base m l ao ca W hl (by omega) hlt h)
  obtain ⟨D, hD⟩ : ∃ D, (baseL l).length = D := ⟨_, rfl⟩
  unfold WordPost at C2
  rw [hD] at C2 ⊢
  have hDm : D ≤ 6 := by rw [← hD]; unfold baseL; rw [List.length_reverse, srtU_len]; exact Nat.le_trans (baseR_len l) (by omega)
  obtain ⟨P, hP⟩ : ∃ P, 2 ^ N = P := ⟨_, rfl⟩
  have hPl : P ≤ 4096 := by rw [← hP]; exact two_le16 hN
  have eP : (2 : Int) ^ N = (P : Int) := by rw [← hP, Int.natCast_pow]; rfl
  have wP2 : IntKind.u16.wrap ((2 : Int) ^ N) = (P : Int) := by rw [eP]; exact wrap_u16 P (by omega)
  have wP3 : IntKind.u16.wrap (P : Int) = (P : Int) := wrap_u16 P (by omega)
  have hCR : Hid (crossN N l = (List.range P).filter (evenB l)) := by unfold crossN; rw [hP]; trivial
  clear hl hlt hltN hE hP hD
  by_cases h6 : 6 + D < N
  · have z6 : (6 : Int) < (N : Int) - (D : Int) := by omega
    rw [if_pos h6]
    go_enter Try.func7, Try.ntmps7
    go_wp2_with (first
      | (go_at_call 17; (refine C1.out.mono ?_); rintro e w1 ⟨rfl, hb1⟩)
      | (go_at_call 33; (refine (C2.out _ (hR.out.below hb1)).mono ?_); rintro e w2 ⟨a2, rfl, hn2, hp2, hR2, hb2⟩)
      | fail)
    go_ret2
    exact ⟨none, rfl, (fun _ => rfl), (fun a h => by cases h), Reads.nil _ _, hb1.trans (hb2.mono hb1.size)⟩
  · have z6 : ¬ ((6 : Int) < (N : Int) - (D : Int)) := by omega
    rw [if_neg h6]
    go_enter Try.func7, Try.ntmps7
    go_wp2_with (first
      | (go_at_call 17; (refine C1.out.mono ?_); rintro e w1 ⟨rfl, hb1⟩)
      | (go_at_call 33; (refine (C2.out _ (hR.out.below hb1)).mono ?_); rintro e w2 ⟨a2, rfl, hn2, hp2, hR2, hb2⟩)
      | fail)
    have hBs : Hid (Below w.heap.size w w2) := hb1.trans (hb2.mono hb1.size)
    have HRX := hR
    clear hb1 hb2 hR2 hp2 hn2
    go_loopw [7, 23] (fun vo vj wr => ∃ (j : Nat), vj = .int .u16 j ∧ j ≤ P ∧ Hid (wr.ownsRow w.heap.size 29 1 vo ((List.range j).filter (evenB l)).length (cellsU ((List.range j).filter (evenB l)))) ∧ Hid (Below w.heap.size w wr)) (fun _ vj _ => P - (intOf vj).toNat)
    case atStart => exact ⟨0, rfl, Nat.zero_le _, World.ownsRow_nil _ _ _ _, hBs⟩
    case round =>
      obtain ⟨j, rfl, hj, hO, hB⟩ := hrel
      obtain ⟨wo, rfl⟩ : ∃ wo, wo = wr := ⟨_, rfl⟩
      by_cases hjP : j < P
      · have hjz : (j : Int) < (P : Int) := by omega
        have hj16 : j < 65536 := by omega
        obtain ⟨J, hJ⟩ : ∃ J, j + 1 = J := ⟨_, rfl⟩
        have eJ : (j : Int) + 1 = (J : Int) := by omega
        have wJ : IntKind.u16.wrap ((j : Int) + 1) = (J : Int) := by rw [eJ]; exact wrap_u16 J (by omega)
        have HJ := Lib.hid hJ
        have hHS := Lib.hid ((congrArg (List.filter (evenB l)) (List.range_succ (n := j))).trans (List.filter_append _ _))
        rw [show j.succ = J from hJ] at hHS
        obtain ⟨Y, hY⟩ : ∃ Y, (List.range j).filter (evenB l) = Y := ⟨_, rfl⟩
        have hYl : Y.length ≤ j := by rw [← hY]; refine Nat.le_trans (List.length_filter_le _ _) ?_; simp
        rw [hY] at hO hHS
        obtain ⟨yl, hyl⟩ : ∃ yl, Y.length = yl := ⟨_, rfl⟩
        rw [hyl] at hO hYl
        have HYL := Lib.hid hyl
        obtain ⟨w8, hw8⟩ : ∃ w8, wo.alloc (.cells #[.int .u16 (j : Int)] 29) = w8 := ⟨_, rfl⟩
        obtain ⟨b8, hb8⟩ : ∃ b8, wo.heap.size = b8 := ⟨_, rfl⟩
        have c8 : w8.cell? ⟨b8, 0, none⟩ = some (.int .u16 (j : Int)) := by rw [← hw8, ← hb8]; simp
        have hBel8 : Below wo.heap.size wo w8 := by rw [← hw8]; exact Below.alloc (Below.refl _ _) (Nat.le_refl _) _
        have hO8 := Lib.hid (own_below hO.out hBel8)
        have hB8 : Hid (Below w.heap.size w w8) := hB.out.trans (hBel8.mono hB.out.size)
        have hCF : Hid (Calls Try.prog 34 #[.slice ao (l.map fun x : Nat => (x : Int)).length ca, .func (.func 35) #[] #[.pointer (some ⟨b8, 0, none⟩)]] w8 fun e w' => e = .returned (.bool ((l.map fun x : Nat => (x : Int)).any (oddX j))) ∧ ∃ n, w' = w8.drewN n) := by
          refine containsFunc_u16 35 (.pointer (some ⟨b8, 0, none⟩)) (fun x W => by go_simp) (oddX j) (l.map fun x : Nat => (x : Int)) ao ca _ (by rw [List.length_map, HL.out]; omega) (by rw [← cellsU_cast]; exact HRX.out.below hB8.out) ?_
          intro x hx q
          obtain ⟨y, hy, rfl⟩ := List.mem_map.1 hx
          refine (dual_clo j b8 y (w8.drewN q) hj16 (HXLT.out y hy) (show World.cell? _ _ = _ from c8)).mono ?_
          rintro e w' ⟨rfl, n, rfl⟩
          exact ⟨rfl, n, rfl⟩
        rw [List.length_map, HL.out] at hCF
        have hev : evenB l j = !((l.map fun x : Nat => (x : Int)).any (oddX j)) := rfl
        obtain ⟨T, hT⟩ : ∃ T, (l.map fun x : Nat => (x : Int)).any (oddX j) = T := ⟨_, rfl⟩
        rw [hT] at hCF hev
        have HSZ8 : Hid (w.heap.size ≤ w8.heap.size) := hB8.out.size
        clear hBel8 hO hB hY hyl hT hJ
        cases T with
        | false =>
          have HS : Hid ((List.range J).filter (evenB l) = Y ++ [j]) := by rw [hHS.out, List.filter_cons_of_pos (by rw [hev]; rfl), List.filter_nil]; trivial
          clear hev hHS
          go_wp2_with (first
            | (go_at_call 34; (refine hCF.out.mono ?_); rintro e w9 ⟨rfl, q, hw9⟩; have hO9 := Lib.hid (show w9.ownsRow w.heap.size 29 1 u7 yl (cellsU Y) by rw [hw9]; exact own_below hO8.out (below_dr _ _ _)); have hB9 := Lib.hid (show Below w.heap.size w w9 by rw [hw9]; exact below_drewN hB8.out q); have c9 := (show w9.cell? ⟨b8, 0, none⟩ = some (.int .u16 (j : Int)) by rw [hw9]; exact c8); clear hw9)
            | (at_builtin; go_must (refine app_one2 rfl (.tmp 30) (.tmp 32) 22 rfl w.heap.size 29 _ 1 2 Try.underlying22 u16Info u7 yl (cellsU Y) (by rfl) hO9.out [.int .u16 (j : Int)] (by rfl) rfl (by intro u hu; simp at hu; subst hu; rfl) (by unfold maxLen; omega) (by omega) hB9.out.size ?_); intro v1 w1 hl1 hg1 hb1 hk1)
            | fail)
          go_roundw
          case rel =>
            refine ⟨J, by (first | rfl | go_num), by have := HJ.out; omega, ?_, hB9.out.trans hb1⟩
            show World.ownsRow _ _ _ _ _ _ _
            rw [HS.out, List.length_append, HYL.out, cellsU_app]
            exact hl1
          case measure => have := HJ.out; (simp [intOf]; try omega)
        | true =>
          have HS : Hid ((List.range J).filter (evenB l) = Y) := by rw [hHS.out, List.filter_cons_of_neg (by rw [hev]; simp), List.filter_nil, List.append_nil]; trivial
          clear hev hHS
          go_wp2_with (first
            | (go_at_call 34; (refine hCF.out.mono ?_); rintro e w9 ⟨rfl, q, hw9⟩; have hO9 := Lib.hid (show w9.ownsRow w.heap.size 29 1 u7 yl (cellsU Y) by rw [hw9]; exact own_below hO8.out (below_dr _ _ _)); have hB9 := Lib.hid (show Below w.heap.size w w9 by rw [hw9]; exact below_drewN hB8.out q); clear hw9)
            | fail)
          go_roundw
          case rel =>
            refine ⟨J, by (first | rfl | go_num), by have := HJ.out; omega, ?_, hB9⟩
            show World.ownsRow _ _ _ _ _ _ _
            rw [HS.out, HYL.out]
            exact hO9.out
          case measure => have := HJ.out; (simp [intOf]; try omega)
      · obtain rfl : P = j := by omega
        obtain ⟨X, hX⟩ : ∃ X, (List.range P).filter (evenB l) = X := ⟨_, rfl⟩
        have hXP : X.length ≤ P := by rw [← hX]; refine Nat.le_trans (List.length_filter_le _ _) ?_; simp
        have hXl : ∀ x ∈ X, x < 65536 := by
          intro x hx
          rw [← hX] at hx
          have := List.mem_range.1 (List.mem_filter.1 hx).1
          omega
        rw [hX] at hO hCR
        obtain ⟨xl, hxl⟩ : ∃ xl, X.length = xl := ⟨_, rfl⟩
        rw [hxl] at hO hXP
        obtain ⟨oa, c0, rfl, hRO, _, _, _⟩ := own_dataK hO.out
        have C3 := Lib.hid (lin_base xl X oa c0 wo hxl (by omega) hXl hRO)
        clear hO hRO hX hxl hXl
        go_wp2_with (first
          | (go_at_call 33; (refine C3.out.mono ?_); rintro e w4 ⟨a4, rfl, hn4, hp4, hR4, hb4⟩)
          | fail)
        go_ret2
        rw [hCR.out]
        exact ⟨a4, rfl, hn4, fun a h => Nat.le_trans hB.out.size (hp4 a h), hR4, hB.out.trans (hb4.mono hB.out.size)⟩
theorem lin_Dual_bad (nz : Int) (l : List Nat) (ao : Option Addr) (m cap : Nat) (w : World) (hl : l.length = m) (h63 : m ≤ 9223372036854775807) (hlt : ∀ x ∈ l, x < 65536) (hE : wordE nz l ≠ 0) (hR : Hid (Reads w ao (cellsU l))) :
    Calls Try.prog 7 #[.int .i64 nz, .slice ao m cap] w fun e w' => e = .returned (.tuple #[.slice none 0 0, .int .i64 (wordE nz l)]) ∧ Below w.heap.size w w' := by
  have C1 := Lib.hid (lin_Check nz l ao m cap w hl h63 hlt hR)
  obtain ⟨E, hEE⟩ : ∃ E, wordE nz l = E := ⟨_, rfl⟩
  rw [hEE] at C1 hE ⊢
  have h0b : (E == 0) = false := by simp; omega
  have h0c : (E != 0) = true := by simp; omega
  clear hEE hl hlt
  go_enter Try.func7, Try.ntmps7
  go_wp2_with (first
    | (go_at_call 17; (refine C1.out.mono ?_); rintro e w1 ⟨rfl, hb1⟩)
    | fail)
  go_ret2
  exact ⟨rfl, hb1⟩
end Go.Proofs.Ytmeffbooabionaa
