/- piece.Check. -/
import Derived.Test.YtioecklnijhjgaaPiece2
namespace Go.Proofs.Ytioecklnijhjgaa
open Go.RowKit

def headS (s : ByteArray) : ByteArray := s.extract 0 (s.size - 4)
def tailS (s : ByteArray) : ByteArray := s.extract (s.size - 4) s.size
def fourS (s : ByteArray) : ByteArray := strOf (fourL (crcN (headS s)))
/-- What Check says. -/
def pieceE (s : ByteArray) (k : Int) : Nat :=
  if k < 1 ∨ 10 < k then 1 else if s.size < 5 then 7 else if tailS s ≠ fourS s then 8 else if 60 < byteS s 0 ∨ s.size ≠ 5 + sizeN (byteS s 0) k.toNat then 3 else 0
theorem headS_size (s : ByteArray) : (headS s).size ≤ s.size := by unfold headS; rw [ByteArray.size_extract]; omega
def ErrB (E : Nat) (w : World) (e : Ending) (w' : World) : Prop := e = .returned (.int .i64 (E : Nat)) ∧ Below w.heap.size w w'
/-- The four bytes that the program writes out. -/
theorem four_conv (c : Nat) : ∃ a0 a1 a2 a3 : Nat, (IntKind.u8.wrap (c : Int) = (a0 : Int) ∧ IntKind.u8.wrap ((c : Int) / 256) = (a1 : Int) ∧ IntKind.u8.wrap ((c : Int) / 65536) = (a2 : Int) ∧ IntKind.u8.wrap ((c : Int) / 16777216) = (a3 : Int)) ∧
    ∀ W : World, (convert 73 9 (.slice (some ⟨W.heap.size, 0, none⟩) 4 4)).run Try.prog (W.alloc (.cells #[.int .u8 a0, .int .u8 a1, .int .u8 a2, .int .u8 a3] 5)) = .ok (.string (strOf (fourL c))) (W.alloc (.cells #[.int .u8 a0, .int .u8 a1, .int .u8 a2, .int .u8 a3] 5)) := by
  refine ⟨c % 256, c / 256 % 256, c / 65536 % 256, c / 16777216 % 256, ⟨by rw [IntKind.wrap_u8]; omega, by rw [IntKind.wrap_u8]; omega, by rw [IntKind.wrap_u8]; omega, by rw [IntKind.wrap_u8]; omega⟩, fun W => ?_⟩
  exact conv_list (fourL c) (some ⟨W.heap.size, 0, none⟩) 4 _ (fourL_lt c) (fun h => by cases h) (reads_new W _ _)
set_option maxRecDepth 20000 in
set_option maxHeartbeats 2000000 in
theorem piece_Check (s : ByteArray) (k : Int) (w : World) (hs : s.size ≤ 9223372036854775807) :
    Calls Try.prog 75 #[.string s, .int .i64 k] w (ErrB (pieceE s k) w) := by
  have ws : IntKind.i64.wrap ((s.size : Int) - 4) = (s.size : Int) - 4 := IntWalk.i64_in _ (by omega)
  by_cases h1 : k < 1
  · have d1 : decide (k < 1) = true := decide_eq_true h1
    have HE : Hid (pieceE s k = 1) := Lib.hid (by unfold pieceE; rw [if_pos (by omega)])
    clear h1
    go_enter Try.func75, Try.ntmps75
    go_wp2_with fail
    go_ret
    exact ⟨by rw [HE.out]; rfl, Below.refl _ _⟩
  have d1 : decide (k < 1) = false := decide_eq_false h1
  by_cases h2 : 10 < k
  · have d2 : decide (10 < k) = true := decide_eq_true h2
    have HE : Hid (pieceE s k = 1) := Lib.hid (by unfold pieceE; rw [if_pos (by omega)])
    clear h1 h2
    go_enter Try.func75, Try.ntmps75
    go_wp2_with fail
    go_ret
    exact ⟨by rw [HE.out]; rfl, Below.refl _ _⟩
  have d2 : decide (10 < k) = false := decide_eq_false h2
  by_cases h3 : s.size < 5
  · have d3 : decide ((s.size : Int) < 5) = true := by simp; omega
    have HE : Hid (pieceE s k = 7) := Lib.hid (by unfold pieceE; rw [if_neg (by omega), if_pos h3])
    clear h1 h2
    go_enter Try.func75, Try.ntmps75
    go_wp2_with fail
    go_ret
    exact ⟨by rw [HE.out]; rfl, Below.refl _ _⟩
  have d3 : decide ((s.size : Int) < 5) = false := by simp; omega
  obtain ⟨n, hn⟩ : ∃ n, s.size - 4 = n := ⟨_, rfl⟩
  have en : (s.size : Int) - 4 = (n : Int) := by omega
  have hhs := headS_size s
  obtain ⟨A, hA⟩ : ∃ A, headS s = A := ⟨_, rfl⟩
  have hA2 : s.extract 0 n = A := by rw [← hA]; unfold headS; rw [hn]
  obtain ⟨T, hT⟩ : ∃ T, tailS s = T := ⟨_, rfl⟩
  have hT2 : s.extract n s.size = T := by rw [← hT]; unfold tailS; rw [hn]
  rw [hA] at hhs
  have CS := Lib.hid (fun W => piece_Sum A W (by omega))
  obtain ⟨c, hc⟩ : ∃ c, crcN A = c := ⟨_, rfl⟩
  have hcb : c < 4294967296 := by rw [← hc]; exact crcN_lt A
  rw [hc] at CS
  obtain ⟨a0, a1, a2, a3, ⟨w1, w2, w3, w4⟩, KC⟩ := four_conv c
  have hF : Hid (fourS s = strOf (fourL c)) := Lib.hid (by unfold fourS; rw [hA, hc])
  obtain ⟨F, hF2⟩ : ∃ F, strOf (fourL c) = F := ⟨_, rfl⟩
  rw [hF2] at hF KC
  have KC0 := KC w
  have HB0 := Lib.hid ((Below.refl w.heap.size w).alloc (Nat.le_refl _) (.cells #[.int .u8 a0, .int .u8 a1, .int .u8 a2, .int .u8 a3] 5))
  have KC1 : (convert 73 9 (.slice (some ⟨w.heap.size, 0, none⟩) 4 4)).run Try.prog (w.alloc (.cells #[.int .u8 a0, .int .u8 a1, .int .u8 a2, .int .u8 a3] 5)).drew = .ok (.string F) (w.alloc (.cells #[.int .u8 a0, .int .u8 a1, .int .u8 a2, .int .u8 a3] 5)).drew := KC w.drew
  have HE : Hid (pieceE s k = if T ≠ F then 8 else if 60 < byteS s 0 ∨ s.size ≠ 5 + sizeN (byteS s 0) k.toNat then 3 else 0) := Lib.hid (by unfold pieceE; rw [if_neg (by omega), if_neg h3, hT, hF.out])
  have n0 : (0 : Int) ≤ (n : Int) := by omega
  have n1 : (n : Int) ≤ (s.size : Int) := by omega
  have HN := Lib.hid hn
  clear hA hT hc hF hF2 KC hn
  by_cases hTF : T = F
  · have t1 := str_eq hTF
    have t1n : (T.toList != F.toList) = false := by rw [bne, t1]; rfl
    have HTF := Lib.hid hTF
    clear hTF
    have hs0 : 0 < s.size := by omega
    obtain ⟨b, hb⟩ : ∃ b, byteS s 0 = b := ⟨_, rfl⟩
    have hbb : b < 256 := by rw [← hb]; exact byteS_lt _ _
    have hb2 : s[0].toNat = b := by rw [← hb]; exact byteS_get s 0 hs0
    rw [hb] at HE
    by_cases h6 : 60 < b
    · have d6 : decide ((60 : Int) < (b : Int)) = true := by simp; omega
      have HE3 : Hid (pieceE s k = 3) := Lib.hid (by rw [HE.out, if_neg (by simp [HTF.out]), if_pos (.inl h6)])
      clear hb
      go_enter Try.func75, Try.ntmps75
      go_wp2_with fail
      (with_reducible refine (CS.out _).mono ?_)
      rintro e w5 ⟨rfl, rfl⟩
      go_wp2_with fail
      go_region
      all_goals
        go_wp2_with fail
        go_ret
        exact ⟨by rw [HE3.out]; rfl, below_drew1 HB0.out⟩
    · have d6 : decide ((60 : Int) < (b : Int)) = false := by simp; omega
      obtain ⟨K, rfl⟩ : ∃ K : Nat, k = K := ⟨k.toNat, by omega⟩
      have CZ := Lib.hid (fun W => piece_size b K W (by omega) (by omega) (by omega))
      have hzb := sizeN_le (T := b) (k := K) (by omega)
      obtain ⟨z, hz⟩ : ∃ z, sizeN b K = z := ⟨_, rfl⟩
      rw [hz] at CZ hzb
      have hz2 : Hid (sizeN b ((K : Int).toNat) = z) := Lib.hid hz
      have wb : IntKind.i64.wrap (b : Int) = (b : Int) := IntWalk.i64_in _ (by omega)
      clear hb hz
      by_cases h7 : n = 1 + z
      · have d7 : ((n : Int) == 1 + (z : Int)) = true := by simp; omega
        have d7n : ((n : Int) != 1 + (z : Int)) = false := by rw [bne, d7]; rfl
        have HE3 : Hid (pieceE s K = 0) := Lib.hid (by rw [HE.out, if_neg (by simp [HTF.out]), if_neg (by rw [hz2.out]; have := HN.out; omega)])
        have H7 := Lib.hid h7
        clear h7
        go_enter Try.func75, Try.ntmps75
        go_wp2_with fail
        (with_reducible refine (CS.out _).mono ?_)
        rintro e w5 ⟨rfl, rfl⟩
        go_wp2_with fail
        go_region
        all_goals
          go_wp2_with fail
          (with_reducible refine (CZ.out _).mono ?_)
          rintro e w6 ⟨rfl, rfl⟩
          go_wp2_with fail
          go_ret
          exact ⟨by rw [HE3.out]; rfl, below_drew1 HB0.out⟩
      · have d7 : ((n : Int) == 1 + (z : Int)) = false := by simp; omega
        have d7n : ((n : Int) != 1 + (z : Int)) = true := by rw [bne, d7]; rfl
        have HE3 : Hid (pieceE s K = 3) := Lib.hid (by rw [HE.out, if_neg (by simp [HTF.out]), if_pos (by rw [hz2.out]; have := HN.out; omega)])
        go_enter Try.func75, Try.ntmps75
        go_wp2_with fail
        (with_reducible refine (CS.out _).mono ?_)
        rintro e w5 ⟨rfl, rfl⟩
        go_wp2_with fail
        go_region
        all_goals
          go_wp2_with fail
          (with_reducible refine (CZ.out _).mono ?_)
          rintro e w6 ⟨rfl, rfl⟩
          go_wp2_with fail
          go_ret
          exact ⟨by rw [HE3.out]; rfl, below_drew1 HB0.out⟩
  · have t1 := str_ne hTF
    have t1n : (T.toList != F.toList) = true := by rw [bne, t1]; rfl
    have HE3 : Hid (pieceE s k = 8) := Lib.hid (by rw [HE.out, if_pos hTF])
    clear hTF
    go_enter Try.func75, Try.ntmps75
    go_wp2_with fail
    (with_reducible refine (CS.out _).mono ?_)
    rintro e w5 ⟨rfl, rfl⟩
    go_wp2_with fail
    go_region
    all_goals
      go_wp2_with fail
      go_ret
      exact ⟨by rw [HE3.out]; rfl, below_drew1 HB0.out⟩
end Go.Proofs.Ytioecklnijhjgaa
