/- The reference's PieceErr. -/
import Derived.Test.YthnbhhfbmkklmaaPiece3
import Derived.Test.YthnbhhfbmkklmaaPiece4
import Derived.Test.YthnbhhfbmkklmaaRepS
import Derived.Deep.RegionWith
namespace Go.Proofs.Ythnbhhfbmkklmaa
open Go.RowKit

theorem repeat_x (b : Nat) : (⟨(Lib.repeatL (ByteArray.mk #[120]).data.toList b).toArray⟩ : ByteArray).size = b := by
  have := Lib.repeatL_replicate 120 1 b
  show (Lib.repeatL _ b).toArray.size = b
  simp only [List.replicate_one] at this
  show (Lib.repeatL [120] b).toArray.size = b
  rw [this]
  simp
set_option maxRecDepth 100000 in
set_option maxHeartbeats 2000000 in
theorem ref_PieceErr (s : ByteArray) (k : Int) (w : World) (hs : s.size ≤ 9223372036854775807) :
    Calls Try.prog 24 #[.string s, .int .i64 k] w (ErrB (pieceE s k) w) := by
  have ws : IntKind.i64.wrap ((s.size : Int) - 4) = (s.size : Int) - 4 := IntWalk.i64_in _ (by omega)
  by_cases h1 : k < 1
  · have d1 : decide (k < 1) = true := decide_eq_true h1
    have HE : Hid (pieceE s k = 1) := Lib.hid (by unfold pieceE; rw [if_pos (by omega)])
    clear h1
    go_enter Try.func24, Try.ntmps24
    go_wp2_with fail
    go_ret
    exact ⟨by rw [HE.out]; rfl, Below.refl _ _⟩
  have d1 : decide (k < 1) = false := decide_eq_false h1
  by_cases h2 : 10 < k
  · have d2 : decide (10 < k) = true := decide_eq_true h2
    have HE : Hid (pieceE s k = 1) := Lib.hid (by unfold pieceE; rw [if_pos (by omega)])
    clear h1 h2
    go_enter Try.func24, Try.ntmps24
    go_wp2_with fail
    go_ret
    exact ⟨by rw [HE.out]; rfl, Below.refl _ _⟩
  have d2 : decide (10 < k) = false := decide_eq_false h2
  by_cases h3 : s.size < 5
  · have d3 : decide ((s.size : Int) - 4 < 1) = true := by simp; omega
    have HE : Hid (pieceE s k = 7) := Lib.hid (by unfold pieceE; rw [if_neg (by omega), if_pos h3])
    clear h1 h2
    go_enter Try.func24, Try.ntmps24
    go_wp2_with fail
    go_ret
    exact ⟨by rw [HE.out]; rfl, Below.refl _ _⟩
  obtain ⟨n, hn⟩ : ∃ n, s.size - 4 = n := ⟨_, rfl⟩
  have en : (s.size : Int) - 4 = (n : Int) := by omega
  have d3 : decide ((n : Int) < 1) = false := by simp; omega
  have hhs := headS_size s
  obtain ⟨A, hA⟩ : ∃ A, headS s = A := ⟨_, rfl⟩
  have hA2 : s.extract 0 n = A := by rw [← hA]; unfold headS; rw [hn]
  obtain ⟨T, hT⟩ : ∃ T, tailS s = T := ⟨_, rfl⟩
  have hT2 : s.extract n s.size = T := by rw [← hT]; unfold tailS; rw [hn]
  rw [hA] at hhs
  have CS := Lib.hid (fun W => ref_SumOf A W (by omega))
  obtain ⟨c, hc⟩ : ∃ c, crcN A = c := ⟨_, rfl⟩
  have hcb : c < 4294967296 := by rw [← hc]; exact crcN_lt A
  rw [hc] at CS
  have CF := Lib.hid (fun W => ref_Four c W hcb)
  have hF : Hid (fourS s = strOf (fourL c)) := Lib.hid (by unfold fourS; rw [hA, hc])
  obtain ⟨F, hF2⟩ : ∃ F, strOf (fourL c) = F := ⟨_, rfl⟩
  rw [hF2] at hF CF
  have HE : Hid (pieceE s k = if T ≠ F then 8 else if 60 < byteS s 0 ∨ s.size ≠ 5 + sizeN (byteS s 0) k.toNat then 3 else 0) := Lib.hid (by unfold pieceE; rw [if_neg (by omega), if_neg h3, hT, hF.out])
  have n0 : (0 : Int) ≤ (n : Int) := by omega
  have n1 : (n : Int) ≤ (s.size : Int) := by omega
  have HN := Lib.hid hn
  clear hA hT hc hF hF2 hn
  by_cases hTF : T = F
  · have t1 := str_eq hTF.symm
    have t1n : (F.toList != T.toList) = false := by rw [bne, t1]; rfl
    have HTF := Lib.hid hTF
    clear hTF
    have hs0 : 0 < s.size := by omega
    obtain ⟨b, hb⟩ : ∃ b, byteS s 0 = b := ⟨_, rfl⟩
    have hbb : b < 256 := by rw [← hb]; exact byteS_lt _ _
    have hb2 : s[0].toNat = b := by rw [← hb]; exact byteS_get s 0 hs0
    rw [hb] at HE
    by_cases h6 : 60 < b
    · have d6 : decide ((60 : Int) < (b : Int)) = true := by simp; omega
      have HE3 : Hid (pieceE s k = 3) := Lib.hid (by rw [HE.out, if_neg (by simp [HTF.out]), if_pos (.inl h6)])
      clear hb
      go_enter Try.func24, Try.ntmps24
      go_wp2_with fail
      go_region_with (first
        | (go_at_call 21; (with_reducible refine (CS.out _).mono ?_); rintro e w5 ⟨rfl, hb5⟩)
        | (go_at_call 65; (with_reducible refine (CF.out _).mono ?_); rintro e w6 ⟨rfl, hb6⟩)
        | fail)
      all_goals
        have HB := Lib.hid (((below_drew1 (Below.refl w.heap.size w)).trans hb5).trans (hb6.mono (by have := hb5.size; exact this)))
        clear hb5 hb6
        go_wp2_with fail
        go_ret
        exact ⟨by rw [HE3.out]; rfl, HB.out⟩
    · have d6 : decide ((60 : Int) < (b : Int)) = false := by simp; omega
      obtain ⟨K, rfl⟩ : ∃ K : Nat, k = K := ⟨k.toNat, by omega⟩
      have hz2 : Hid (sizeN b ((K : Int).toNat) = sizeN b K) := Lib.hid rfl
      have wb : IntKind.i64.wrap (b : Int) = (b : Int) := IntWalk.i64_in _ (by omega)
      have CRP := Lib.hid (fun W => str_Repeat ⟨#[120]⟩ b W (by omega) (by show 1 * b ≤ _; omega))
      have hrs := repeat_x b
      obtain ⟨R, hR⟩ : ∃ R, (⟨(Lib.repeatL (ByteArray.mk #[120]).data.toList b).toArray⟩ : ByteArray) = R := ⟨_, rfl⟩
      rw [hR] at CRP hrs
      have CSP := Lib.hid (fun W => ref_SplitOf R K K W (by omega) (by omega) (Nat.le_refl _) (by omega))
      unfold SplitOfPost at CSP
      rw [hrs] at CSP
      have hzb := sizeN_le (T := b) (k := K) (by omega)
      obtain ⟨z, hz⟩ : ∃ z, sizeN b K = z := ⟨_, rfl⟩
      rw [hz] at CSP hz2 hzb
      clear hb hz hR hrs
      have q0 : 0 < K := by omega
      by_cases h7 : n = 1 + z
      · have d7 : (((z + 5 : Nat) : Int) == (s.size : Int)) = true := by simp; have := HN.out; omega
        have d7n : (((z + 5 : Nat) : Int) != (s.size : Int)) = false := by rw [bne, d7]; rfl
        have HE3 : Hid (pieceE s K = 0) := Lib.hid (by rw [HE.out, if_neg (by simp [HTF.out]), if_neg (by rw [hz2.out]; have := HN.out; omega)])
        have H7 := Lib.hid h7
        clear h7
        go_enter Try.func24, Try.ntmps24
        go_wp2_with fail
        go_region_with (first
          | (go_at_call 21; (with_reducible refine (CS.out _).mono ?_); rintro e w5 ⟨rfl, hb5⟩)
          | (go_at_call 65; (with_reducible refine (CF.out _).mono ?_); rintro e w6 ⟨rfl, hb6⟩)
          | fail)
        all_goals
          have HB := Lib.hid (((below_drew1 (Below.refl w.heap.size w)).trans hb5).trans (hb6.mono (by have := hb5.size; exact this)))
          clear hb5 hb6
          go_wp2_with fail
          (with_reducible refine (CRP.out _).mono ?_)
          rintro e w7 ⟨rfl, hb7⟩
          have HB7 := Lib.hid (HB.out.trans (hb7.mono HB.out.size))
          clear hb7
          go_wp2_with fail
          (with_reducible refine (CSP.out _).mono ?_)
          rintro e w8 ⟨ao, cap, rfl, hR8, hb8⟩
          obtain ⟨bb, oo, rfl, c8⟩ := hR8 0 _ (rowF_get _ q0)
          obtain ⟨P, hP⟩ : ∃ P, pieceS b z (pcF R K 0) = P := ⟨_, rfl⟩
          have hPs : P.size = z + 5 := by rw [← hP]; exact pieceS_size _ _ _
          rw [hP, Nat.add_zero] at c8
          have HB8 := Lib.hid (HB7.out.trans (hb8.mono HB7.out.size))
          clear hb8 hR8 hP
          go_wp2_with fail
          go_ret
          exact ⟨by rw [HE3.out]; rfl, HB8.out⟩
      · have d7 : (((z + 5 : Nat) : Int) == (s.size : Int)) = false := by simp; have := HN.out; omega
        have d7n : (((z + 5 : Nat) : Int) != (s.size : Int)) = true := by rw [bne, d7]; rfl
        have HE3 : Hid (pieceE s K = 3) := Lib.hid (by rw [HE.out, if_neg (by simp [HTF.out]), if_pos (by rw [hz2.out]; have := HN.out; omega)])
        go_enter Try.func24, Try.ntmps24
        go_wp2_with fail
        go_region_with (first
          | (go_at_call 21; (with_reducible refine (CS.out _).mono ?_); rintro e w5 ⟨rfl, hb5⟩)
          | (go_at_call 65; (with_reducible refine (CF.out _).mono ?_); rintro e w6 ⟨rfl, hb6⟩)
          | fail)
        all_goals
          have HB := Lib.hid (((below_drew1 (Below.refl w.heap.size w)).trans hb5).trans (hb6.mono (by have := hb5.size; exact this)))
          clear hb5 hb6
          go_wp2_with fail
          (with_reducible refine (CRP.out _).mono ?_)
          rintro e w7 ⟨rfl, hb7⟩
          have HB7 := Lib.hid (HB.out.trans (hb7.mono HB.out.size))
          clear hb7
          go_wp2_with fail
          (with_reducible refine (CSP.out _).mono ?_)
          rintro e w8 ⟨ao, cap, rfl, hR8, hb8⟩
          obtain ⟨bb, oo, rfl, c8⟩ := hR8 0 _ (rowF_get _ q0)
          obtain ⟨P, hP⟩ : ∃ P, pieceS b z (pcF R K 0) = P := ⟨_, rfl⟩
          have hPs : P.size = z + 5 := by rw [← hP]; exact pieceS_size _ _ _
          rw [hP, Nat.add_zero] at c8
          have HB8 := Lib.hid (HB7.out.trans (hb8.mono HB7.out.size))
          clear hb8 hR8 hP
          go_wp2_with fail
          go_ret
          exact ⟨by rw [HE3.out]; rfl, HB8.out⟩
  · have t1 := str_ne (fun h : F = T => hTF h.symm)
    have t1n : (F.toList != T.toList) = true := by rw [bne, t1]; rfl
    have HE3 : Hid (pieceE s k = 8) := Lib.hid (by rw [HE.out, if_pos hTF])
    clear hTF
    go_enter Try.func24, Try.ntmps24
    go_wp2_with fail
    go_region_with (first
      | (go_at_call 21; (with_reducible refine (CS.out _).mono ?_); rintro e w5 ⟨rfl, hb5⟩)
      | (go_at_call 65; (with_reducible refine (CF.out _).mono ?_); rintro e w6 ⟨rfl, hb6⟩)
      | fail)
    all_goals
      have HB := Lib.hid (((below_drew1 (Below.refl w.heap.size w)).trans hb5).trans (hb6.mono (by have := hb5.size; exact this)))
      clear hb5 hb6
      go_wp2_with fail
      go_ret
      exact ⟨by rw [HE3.out]; rfl, HB.out⟩
end Go.Proofs.Ythnbhhfbmkklmaa
