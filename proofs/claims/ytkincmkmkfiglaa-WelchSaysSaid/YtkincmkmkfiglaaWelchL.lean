/- WelchSays: for arbitrary rows, Check and Mend answer what the reference answers. Conditions: none. -/
import Derived.Test.YtkincmkmkfiglaaRows
import Derived.Test.YtkincmkmkfiglaaWelchD
namespace Go.Proofs.Ytkincmkmkfiglaa
open Go.RowKit

theorem chk_cases12 (n : Nat) (k : Int) : (12 < n ∧ chkE 12 n k = 2) ∨ (n ≤ 12 ∧ k < 1 ∧ chkE 12 n k = 1) ∨ (n ≤ 12 ∧ 1 ≤ k ∧ (n : Int) < k ∧ chkE 12 n k = 1) ∨ (n ≤ 12 ∧ 1 ≤ k ∧ k ≤ n ∧ chkE 12 n k = 0) := by
  unfold chkE
  by_cases h1 : 12 < n
  · rw [if_pos h1]; exact .inl ⟨h1, rfl⟩
  · rw [if_neg h1]
    by_cases h2 : k < 1
    · rw [if_pos (.inl h2)]; exact .inr (.inl ⟨by omega, h2, rfl⟩)
    · by_cases h3 : (n : Int) < k
      · rw [if_pos (.inr h3)]; exact .inr (.inr (.inl ⟨by omega, by omega, h3, rfl⟩))
      · rw [if_neg (by omega)]; exact .inr (.inr (.inr ⟨by omega, by omega, by omega, rfl⟩))
set_option maxRecDepth 20000 in
theorem welch_Mend_bad (n : Nat) (k : Int) (ao : Option Addr) (cap : Nat) (w : World) (h : chkE 12 n k ≠ 0) :
    Calls Try.prog 69 #[.slice ao n cap, .int .i64 k] w fun e w' => e = .returned (.tuple #[.slice none 0 0, .int .i64 0, .int .i64 (chkE 12 n k)]) ∧ w = w' := by
  have HC := Lib.hid (welch_Check n k ao cap w)
  obtain ⟨E, hE⟩ : ∃ E, chkE 12 n k = E := ⟨_, rfl⟩
  rw [hE] at HC h ⊢
  have d : (E != 0) = true := by simpa using h
  clear hE h
  go_enter Try.func69, Try.ntmps69
  go_wp2_with fail
  refine HC.out.mono ?_
  rintro e w' ⟨rfl, rfl⟩
  go_wp2_with fail
  go_ret3
  exact ⟨rfl, rfl⟩
set_option maxRecDepth 100000 in
set_option maxHeartbeats 4000000 in
theorem welchSays_walk (ao : Option Addr) (ln cap : Nat) (zs : List Int) (k : Int) (w : World) (h1 : IntsIn .u8 w ao ln zs ∧ CapOk ao ln cap) (_ : (Lit.int .i64 k).wf = true) :
    Calls Try.prog 11 #[.slice ao ln cap, .int .i64 k] w fun e w' => e = .returned (.bool true) ∧ Below w.heap.size w w' := by
  have HY := Lib.hid (bytes_of h1.1)
  have HCH := Lib.hid (fun W => welch_Check ln k ao cap W)
  have HMB := Lib.hid (welch_Mend_bad ln k ao cap w)
  clear h1
  rcases chk_cases12 ln k with ⟨q1, q0⟩ | ⟨q1, q2, q0⟩ | ⟨q1, q2, q3, q0⟩ | ⟨q1, q2, q3, q0⟩
  · have f1 : decide ((12 : Int) < ln) = true := by simp; omega
    rw [q0] at HCH HMB
    clear q0
    go_enter Try.func11, Try.ntmps11
    go_wp2_with (first | (go_at_call 69; refine (HMB.out (by decide)).mono ?_; rintro e w' ⟨rfl, rfl⟩) | (go_at_call 70; refine (HCH.out _).mono ?_; rintro e w' ⟨rfl, rfl⟩))
    go_ret
    exact ⟨by simp, Below.refl _ _⟩
  · have f1 : decide ((12 : Int) < ln) = false := by simp; omega
    have f2 : decide (k < 1) = true := by simp; omega
    rw [q0] at HCH HMB
    clear q0
    go_enter Try.func11, Try.ntmps11
    go_wp2_with (first | (go_at_call 69; refine (HMB.out (by decide)).mono ?_; rintro e w' ⟨rfl, rfl⟩) | (go_at_call 70; refine (HCH.out _).mono ?_; rintro e w' ⟨rfl, rfl⟩))
    go_ret
    exact ⟨by simp, Below.refl _ _⟩
  · have f1 : decide ((12 : Int) < ln) = false := by simp; omega
    have f2 : decide (k < 1) = false := by simp; omega
    have f3 : decide ((ln : Int) < k) = true := by simp; omega
    rw [q0] at HCH HMB
    clear q0
    go_enter Try.func11, Try.ntmps11
    go_wp2_with (first | (go_at_call 69; refine (HMB.out (by decide)).mono ?_; rintro e w' ⟨rfl, rfl⟩) | (go_at_call 70; refine (HCH.out _).mono ?_; rintro e w' ⟨rfl, rfl⟩))
    go_ret
    exact ⟨by simp, Below.refl _ _⟩
  · have f1 : decide ((12 : Int) < ln) = false := by simp; omega
    have f2 : decide (k < 1) = false := by simp; omega
    have f3 : decide ((ln : Int) < k) = false := by simp; omega
    obtain ⟨K, rfl⟩ : ∃ K : Nat, k = K := ⟨k.toNat, by omega⟩
    have HM := Lib.hid (welch_Mend (gfOfI zs) ln K ao cap w q1 (by omega) (by omega) HY)
    have HN := Lib.hid (fun W hy => ref_Nearest (gfOfI zs) ln K ao cap W q1 (by omega) (by omega) hy)
    rw [q0] at HCH
    clear q0 HMB
    go_enter Try.func11, Try.ntmps11
    go_wp2_with fail
    refine HM.out.mono ?_
    rintro e w1 ⟨hb1, hh⟩
    have HB1 := Lib.hid hb1
    have HY1 := Lib.hid (HY.out.below hb1)
    clear hb1 HM
    rcases hh with ⟨hnf, rfl⟩ | ⟨s, hf, v, rfl, hv⟩
    · have HNF := Lib.hid hnf
      clear hnf
      go_wp2_with (go_at_call 70; refine (HCH.out _).mono ?_; rintro e w' ⟨rfl, rfl⟩)
      refine (HN.out _ HY1).mono ?_
      rintro e w2 ⟨hb2, hh⟩
      have HB2 := Lib.hid (HB1.out.trans (Below.mono hb2 HB1.out.size))
      clear hb2 HN
      rcases hh with ⟨_, rfl⟩ | ⟨s, hf, _⟩
      · go_wp2_with fail
        go_ret
        exact ⟨by simp, HB2.out⟩
      · exact (hf.not HNF.out).elim
    · have HF := Lib.hid hf
      obtain ⟨av, cv, rfl, hRv, _, _⟩ := own_reads hv
      have HRv := Lib.hid hRv
      clear hf hv hRv
      go_wp2_with (go_at_call 70; refine (HCH.out _).mono ?_; rintro e w' ⟨rfl, rfl⟩)
      refine (HN.out _ HY1).mono ?_
      rintro e w2 ⟨hb2, hh⟩
      have HB2 := Lib.hid (HB1.out.trans (Below.mono hb2 HB1.out.size))
      have HRv2 := Lib.hid (HRv.out.below hb2)
      clear hb2 HN
      rcases hh with ⟨hnf, _⟩ | ⟨t, hf, u, rfl, hu⟩
      · exact (HF.out.not hnf).elim
      · obtain rfl := HF.out.uniq hf
        obtain ⟨au, cu, rfl, hRu, _, _⟩ := own_reads hu
        have HRu := Lib.hid hRu
        obtain ⟨q, hq⟩ : ∃ q, setDiff (gfOfI zs) ln K s = q := ⟨_, rfl⟩
        rw [hq]
        have d5 : ((q : Int) == (q : Int)) = true := by simp
        clear hu hf hq hRu
        go_wp2_with fail
        refine (equal_gf (setRow (gfOfI zs) ln K s) ln av au cv cu w2 (by omega) HRv2 HRu).mono ?_
        rintro e w' ⟨rfl, m, rfl⟩
        go_wp2_with fail
        go_ret
        exact ⟨by simp, below_drewN HB2.out m⟩
end Go.Proofs.Ytkincmkmkfiglaa
