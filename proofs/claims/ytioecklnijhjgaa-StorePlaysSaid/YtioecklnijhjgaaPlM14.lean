/- piece.Check. -/
import Derived.Test.YtioecklnijhjgaaPiece2
set_option linter.unusedVariables false
set_option linter.unusedSimpArgs false
namespace Go.Proofs.Ytioecklnijhjgaa
open Go.RowKit

def headS (s : ByteArray) : ByteArray := s.extract 0 (s.size - 4)
def tailS (s : ByteArray) : ByteArray := s.extract (s.size - 4) s.size
def fourS (s : ByteArray) : ByteArray := strOf (fourL (crcN (headS s)))
/-- What Check says. -/
def pieceE (s : ByteArray) (k : Int) : Nat :=
  if k < 1 ∨ 10 < k then 1 else if s.size < 5 then 7 else if tailS s ≠ fourS s then 8 else if 60 < byteS s 0 ∨ s.size ≠ 5 + sizeN (byteS s 0) k.toNat then 3 else 0
theorem headS_size (s : ByteArray) : (headS s).size ≤ s.size := by unfold headS; rw [ByteArray.size_extract]; omega
def ErrB (E : Nat) (w : World) (e : Ending) (w' : World) : Prop := e = .returned (.int .i64 (E : Nat)) ∧ Below w.heap.size w w'
/-- The four bytes that the program writes out. -/
theorem four_conv (c : Nat) : ∃ a0 a1 a2 a3 : Nat, (IntKind.u8.wrap (c : Int) = (a0 : Int) ∧ IntKind.u8.wrap ((c : Int) / 256) = (a1 : Int) ∧ IntKind.u8.wrap ((c : Int) / 65536) = (a2 : Int) ∧ IntKind.u8.wrap ((c : Int) / 16777216) = (a3 : Int)) ∧
    ∀ W : World, (convert 73 9 (.slice (some ⟨W.heap.size, 0, none⟩) 4 4)).run Try.prog (W.alloc (.cells #[.int .u8 a0, .int .u8 a1, .int .u8 a2, .int .u8 a3] 5)) = .ok (.string (strOf (fourL c))) (W.alloc (.cells #[.int .u8 a0, .int .u8 a1, .int .u8 a2, .int .u8 a3] 5)) := by
  refine ⟨c % 256, c / 256 % 256, c / 65536 % 256, c / 16777216 % 256, ⟨by rw [IntKind.wrap_u8]; omega, by rw [IntKind.wrap_u8]; omega, by rw [IntKind.wrap_u8]; omega, by rw [IntKind.wrap_u8]; omega⟩, fun W => ?_⟩
  exact conv_list (fourL c) (some ⟨W.heap.size, 0, none⟩) 4 _ (fourL_lt c) (fun h => by cases h) (reads_new W _ _)
set_option maxRecDepth 20000 in
set_option maxHeartbeats 2000000 in
theorem piece_Check (s : ByteArray) (k : Int) (w : World) (hs : s.size ≤ 9223372036854775807) :
    Calls Try.prog 75 #[.string s, .int .i64 k] w (ErrB (pieceE s k) w) := by
  have ws : IntKind.i64.wrap ((s.size : Int) - 4) = (s.size : Int) - 4 := IntWalk.i64_in _ (by omega)
  by_cases h1 : k < 1
  · have d1 : decide (k < 1) = true := decide_eq_true h1
    have HE : Hid (pieceE s k = 1) := Lib.hid (by unfold pieceE; rw [if_pos (by omega)])
    clear h1
    go_enter Try.func75, Try.ntmps75
    go_wp2_with fail
    go_ret
    exact ⟨by rw [HE.out]; rfl, Below.refl _ _⟩
  have d1 : decide (k < 1) = false := decide_eq_false h1
  by_cases h2 : 10 < k
  · have d2 : decide (10 < k) = true := decide_eq_true h2
    have HE : Hid (pieceE s k = 1) := Lib.hid (by unfold pieceE; rw [if_pos (by omega)])
    clear h1 h2
    go_enter Try.func75, Try.ntmps75
    go_wp2_with fail
    go_ret
    exact ⟨by rw [HE.out]; rfl, Below.refl _ _⟩
  have d2 : decide (10 < k) = false := decide_eq_false h2
  by_cases h3 : s.size < 5
  · have d3 : decide ((s.size : Int) < 5) = true := by simp; omega
    have HE : Hid (pieceE s k = 7) := Lib.hid (by unfold pieceE; rw [if_neg (by omega), if_pos h3])
    clear h1 h2
    go_enter Try.func75, Try.ntmps75
    go_wp2_with fail
    go_ret
    exact ⟨by rw [HE.out]; rfl, Below.refl _ _⟩
  have d3 : decide ((s.size : Int) < 5) = false := by simp; omega
  obtain ⟨n, hn⟩ : ∃ n, s.size - 4 = n := ⟨_, rfl⟩
  have en : (s.size : Int) - 4 = (n : Int) := by omega
  have hhs := headS_size s
  obtain ⟨A, hA⟩ : ∃ A, headS s = A := ⟨_, rfl⟩
  have hA2 : s.extract 0 n = A := by rw [← hA]; unfold headS; rw [hn]
  obtain ⟨T, hT⟩ : ∃ T, tailS s = T := ⟨_, rfl⟩
  have hT2 : s.extract n s.size = T := by rw [← hT]; unfold tailS; rw [hn]
  rw [hA] at hhs
  have CS := Lib.hid (fun W => piece_Sum A W (by omega))
  obtain ⟨c, hc⟩ : ∃ c, crcN A = c := ⟨_, rfl⟩
  have hcb : c < 4294967296 := by rw [← hc]; exact crcN_lt A
  rw [hc] at CS
  obtain ⟨a0, a1, a2, a3, ⟨w1, w2, w3, w4⟩, KC⟩ := four_conv c
  have hF : Hid (fourS s = strOf (fourL c)) := Lib.hid (by unfold fourS; rw [hA, hc])
  obtain ⟨F, hF2⟩ : ∃ F, strOf (fourL c) = F := ⟨_, rfl⟩
  rw [hF2] at hF KC
  have KC0 := KC w
  have HB0 := Lib.hid ((Below.refl w.heap.size w).alloc (Nat.le_refl _) (.cells #[.int .u8 a0, .int .u8 a1, .int .u8 a2, .int .u8 a3] 5))
  have KC1 : (convert 73 9 (.slice (some ⟨w.heap.size, 0, none⟩) 4 4)).run Try.prog (w.alloc (.cells #[.int .u8 a0, .int .u8 a1, .int .u8 a2, .int .u8 a3] 5)).drew = .ok (.string F) (w.alloc (.cells #[.int .u8 a0, .int .u8 a1, .int .u8 a2, .int .u8 a3] 5)).drew := KC w.drew
  have HE : Hid (pieceE s k = if T ≠ F then 8 else if 60 < byteS s 0 ∨ s.size ≠ 5 + sizeN (byteS s 0) k.toNat then 3 else 0) := Lib.hid (by unfold pieceE; rw [if_neg (by omega), if_neg h3, hT, hF.out])
  have n0 : (0 : Int) ≤ (n : Int) := by omega
  have n1 : (n : Int) ≤ (s.size : Int) := by omega
  have HN := Lib.hid hn
  clear hA hT hc hF hF2 KC hn
  by_cases hTF : T = F
  · have t1 := str_eq hTF
    have t1n : (T.toList != F.toList) = false := by rw [bne, t1]; rfl
    have HTF := Lib.hid hTF
    clear hTF
    have hs0 : 0 < s.size := by omega
    obtain ⟨b, hb⟩ : ∃ b, byteS s 0 = b := ⟨_, rfl⟩
    have hbb : b < 256 := by rw [← hb]; exact byteS_lt _ _
    have hb2 : s[0].toNat = b := by rw [← hb]; exact byteS_get s 0 hs0
    rw [hb] at HE
    by_cases h6 : 60 < b
    · have d6 : decide ((60 : Int) < (b : Int)) = true := by simp; omega
      have HE3 : Hid (pieceE s k = 3) := Lib.hid (by rw [HE.out, if_neg (by simp [HTF.out]), if_pos (.inl h6)])
      clear hb
      go_enter Try.func75, Try.ntmps75
      go_wp2_with fail
      (with_reducible refine (CS.out _).mono ?_)
      rintro e w5 ⟨rfl, rfl⟩
      go_wp2_with fail
      go_region
      all_goals
        go_wp2_with fail
        go_ret
        exact ⟨by rw [HE3.out]; rfl, below_drew1 HB0.out⟩
    · have d6 : decide ((60 : Int) < (b : Int)) = false := by simp; omega
      obtain ⟨K, rfl⟩ : ∃ K : Nat, k = K := ⟨k.toNat, by omega⟩
      have CZ := Lib.hid (fun W => piece_size b K W (by omega) (by omega) (by omega))
      have hzb := sizeN_le (T := b) (k := K) (by omega)
      obtain ⟨z, hz⟩ : ∃ z, sizeN b K = z := ⟨_, rfl⟩
      rw [hz] at CZ hzb
      have hz2 : Hid (sizeN b ((K : Int).toNat) = z) := Lib.hid hz
      have wb : IntKind.i64.wrap (b : Int) = (b : Int) := IntWalk.i64_in _ (by omega)
      clear hb hz
      by_cases h7 : n = 1 + z
      · have d7 : ((n : Int) == 1 + (z : Int)) = true := by simp; omega
        have d7n : ((n : Int) != 1 + (z : Int)) = false := by rw [bne, d7]; rfl
        have HE3 : Hid (pieceE s K = 0) := Lib.hid (by rw [HE.out, if_neg (by simp [HTF.out]), if_neg (by rw [hz2.out]; have := HN.out; omega)])
        have H7 := Lib.hid h7
        clear h7
        go_enter Try.func75, Try.ntmps75
        go_wp2_with fail
        (with_reducible refine (CS.out _).mono ?_)
        rintro e w5 ⟨rfl, rfl⟩
        go_wp2_with fail
        go_region
        all_goals
          go_wp2_with fail
          (with_reducible refine (CZ.out _).mono ?_)
          rintro e w6 ⟨rfl, rfl⟩
          go_wp2_with fail
          go_ret
          exact ⟨by rw [HE3.out]; rfl, below_drew1 HB0.out⟩
      · have d7 : ((n : Int) == 1 + (z : Int)) = false := by simp; omega
        have d7n : ((n : Int) != 1 + (z : Int)) = true := by rw [bne, d7]; rfl
        have HE3 : Hid (pieceE s K = 3) := Lib.hid (by rw [HE.out, if_neg (by simp [HTF.out]), if_pos (by rw [hz2.out]; have := HN.out; omega)])
        go_enter Try.func75, Try.ntmps75
        go_wp2_with fail
        (with_reducible refine (CS.out _).mono ?_)
        rintro e w5 ⟨rfl, rfl⟩
        go_wp2_with fail
        go_region
        all_goals
          go_wp2_with fail
          (with_reducible refine (CZ.out _).mono ?_)
          rintro e w6 ⟨rfl, rfl⟩
          go_wp2_with fail
          go_ret
          exact ⟨by rw [HE3.out]; rfl, below_drew1 HB0.out⟩
  · have t1 := str_ne hTF
    have t1n : (T.toList != F.toList) = true := by rw [bne, t1]; rfl
    have HE3 : Hid (pieceE s k = 8) := Lib.hid (by rw [HE.out, if_pos hTF])
    clear hTF
    go_enter Try.func75, Try.ntmps75
    go_wp2_with fail
    (with_reducible refine (CS.out _).mono ?_)
    rintro e w5 ⟨rfl, rfl⟩
    go_wp2_with fail
    go_region
    all_goals
      go_wp2_with fail
      go_ret
      exact ⟨by rw [HE3.out]; rfl, below_drew1 HB0.out⟩
end Go.Proofs.Ytioecklnijhjgaa
namespace Go.Proofs.Ytioecklnijhjgaa
open Go.RowKit

def usB (ss : List ByteArray) (k : Int) (i : Nat) : Bool := decide (pieceE (sAt ss i) k = 0)
def firstB (ss : List ByteArray) (i : Nat) : Nat := byteS (sAt ss i) 0
def goodJ (ss : List ByteArray) (k : Int) (n : Nat) : List Nat := pl (usB ss k) n
def lenT (ss : List ByteArray) (k : Int) (n : Nat) : Nat := firstB ss ((goodJ ss k n).headD 0)
def sameJ (ss : List ByteArray) (k : Int) (n : Nat) : Prop := ∀ a ∈ goodJ ss k n, firstB ss a = lenT ss k n
def lenM (ss : List ByteArray) (k : Int) (n : Nat) : Nat := sizeN (lenT ss k n) k.toNat
/-- The bytes of column i. -/
def bJ (ss : List ByteArray) (k : Int) (i j : Nat) : GF := if usB ss k j then gf (byteS (sAt ss j) (1 + i)) else 0
def rowJ (ss : List ByteArray) (k : Int) (n i j : Nat) : Nat := (rowP (bJ ss k i) (goodJ ss k n) k.toNat (gf j)).val
def fitJ (ss : List ByteArray) (k : Int) (n i : Nat) : Prop := Fit (usB ss k) (bJ ss k i) (goodJ ss k n) k.toNat n
def textJ (ss : List ByteArray) (k : Int) (n p : Nat) : Nat := rowJ ss k n (p % lenM ss k n) (p / lenM ss k n)
theorem rowJ_lt (ss : List ByteArray) (k : Int) (n i j : Nat) : rowJ ss k n i j < 256 := (rowP (bJ ss k i) (goodJ ss k n) k.toNat (gf j)).lt
/-- What Join answers. -/
def JoinIs (ss : List ByteArray) (n : Nat) (k : Int) (S : ByteArray) (E : Nat) : Prop :=
  (rightB k n = false ∧ S = ByteArray.empty ∧ E = 1) ∨ (rightB k n = true ∧ ¬ sameJ ss k n ∧ S = ByteArray.empty ∧ E = 3) ∨
  (rightB k n = true ∧ sameJ ss k n ∧ (goodJ ss k n).length < k.toNat ∧ S = ByteArray.empty ∧ E = 9) ∨
  (rightB k n = true ∧ sameJ ss k n ∧ k.toNat ≤ (goodJ ss k n).length ∧ (¬ ∀ i, i < lenM ss k n → fitJ ss k n i) ∧ S = ByteArray.empty ∧ E = 8) ∨
  (rightB k n = true ∧ sameJ ss k n ∧ k.toNat ≤ (goodJ ss k n).length ∧ (∀ i, i < lenM ss k n → fitJ ss k n i) ∧ S = bytesOf (lenT ss k n) (textJ ss k n) ∧ E = 0)
theorem JoinIs.uniq {ss : List ByteArray} {n : Nat} {k : Int} {S S' : ByteArray} {E E' : Nat} (h : JoinIs ss n k S E) (h' : JoinIs ss n k S' E') : S = S' ∧ E = E' := by
  rcases h with ⟨a, rfl, rfl⟩ | ⟨a, b, rfl, rfl⟩ | ⟨a, b, c, rfl, rfl⟩ | ⟨a, b, c, d, rfl, rfl⟩ | ⟨a, b, c, d, rfl, rfl⟩ <;>
  rcases h' with ⟨a', rfl, rfl⟩ | ⟨a', b', rfl, rfl⟩ | ⟨a', b', c', rfl, rfl⟩ | ⟨a', b', c', d', rfl, rfl⟩ | ⟨a', b', c', d', rfl, rfl⟩ <;>
  first
    | exact ⟨rfl, rfl⟩
    | (exfalso; first | (rw [a] at a'; cases a'; done) | exact b b' | exact b' b | exact d d' | exact d' d | omega)
def JoinPost (ss : List ByteArray) (n : Nat) (k : Int) (w : World) (e : Ending) (w' : World) : Prop :=
  ∃ S E, JoinIs ss n k S E ∧ e = .returned (.tuple #[.string S, .int .i64 (E : Nat)]) ∧ Below w.heap.size w w'
/-- The length that is known behind the first i strings. -/
def LenI (ss : List ByteArray) (k : Int) (i : Nat) (L : Int) : Prop := (pl (usB ss k) i = [] ∧ L = -1) ∨ ∃ t : Nat, t < 256 ∧ L = t ∧ pl (usB ss k) i ≠ [] ∧ ∀ a ∈ pl (usB ss k) i, firstB ss a = t
theorem LenI.no {ss : List ByteArray} {k : Int} {i : Nat} {L : Int} (h : LenI ss k i L) (hu : usB ss k i = false) : LenI ss k (i + 1) L := by
  unfold LenI at h ⊢
  rw [pl_succ, hu, if_neg (by simp)]; exact h
theorem LenI.yes {ss : List ByteArray} {k : Int} {i : Nat} {L : Int} (h : LenI ss k i L) (hu : usB ss k i = true) (hL : L = -1 ∨ L = (firstB ss i : Int)) : LenI ss k (i + 1) (firstB ss i : Int) := by
  unfold LenI
  rw [pl_succ, hu, if_pos rfl]
  right
  refine ⟨firstB ss i, byteS_lt _ _, rfl, by simp, fun a ha => ?_⟩
  rcases List.mem_append.1 ha with ha | ha
  · rcases h with ⟨h1, h2⟩ | ⟨t, h1, h2, h3, h4⟩
    · rw [h1] at ha; cases ha
    · rcases hL with hL | hL
      · omega
      · rw [h4 a ha]; omega
  · simp at ha; rw [ha]
theorem headD_mem {l : List Nat} (h : l ≠ []) : l.headD 0 ∈ l := by cases l with
  | nil => exact absurd rfl h
  | cons a t => simp
theorem LenI.same {ss : List ByteArray} {k : Int} {n : Nat} {L : Int} (h : LenI ss k n L) : sameJ ss k n := by
  intro a ha
  rcases h with ⟨h1, _⟩ | ⟨t, _, _, h3, h4⟩
  · unfold goodJ at ha; rw [h1] at ha; cases ha
  · unfold lenT
    unfold goodJ at ha ⊢
    rw [h4 a ha, h4 _ (headD_mem h3)]
theorem LenI.lenT {ss : List ByteArray} {k : Int} {n t : Nat} (h : LenI ss k n (t : Int)) : lenT ss k n = t := by
  rcases h with ⟨_, h2⟩ | ⟨t', _, h2, h3, h4⟩
  · omega
  · have e : t = t' := by omega
    unfold Go.Proofs.Ytioecklnijhjgaa.lenT goodJ
    rw [h4 _ (headD_mem h3), e]
theorem LenI.differ {ss : List ByteArray} {k : Int} {n i t : Nat} (h : LenI ss k i (t : Int)) (hi : i < n) (hu : usB ss k i = true) (hne : firstB ss i ≠ t) : ¬ sameJ ss k n := by
  intro hs
  rcases h with ⟨_, h2⟩ | ⟨t', _, h2, h3, h4⟩
  · omega
  · obtain ⟨a, ha⟩ := List.exists_mem_of_ne_nil _ h3
    have h5 := hs i (mem_pl.2 ⟨hi, hu⟩)
    have h6 := hs a (mem_pl.2 ⟨Nat.lt_trans (mem_pl.1 ha).1 hi, (mem_pl.1 ha).2⟩)
    have h7 := h4 a ha
    omega
theorem us_size {ss : List ByteArray} {k : Int} {i : Nat} (hu : usB ss k i = true) : (sAt ss i).size = 5 + sizeN (firstB ss i) k.toNat ∧ 1 ≤ k := by
  unfold usB at hu
  have h := of_decide_eq_true hu
  unfold pieceE at h
  split at h
  · cases h
  · split at h
    · cases h
    · split at h
      · cases h
      · split at h
        · cases h
        · rename_i h1 _ _ h4
          unfold firstB
          exact ⟨by omega, by omega⟩
theorem us_60 {ss : List ByteArray} {k : Int} {i : Nat} (hu : usB ss k i = true) : firstB ss i ≤ 60 := by
  unfold usB at hu
  have h := of_decide_eq_true hu
  unfold pieceE at h
  split at h
  · cases h
  · split at h
    · cases h
    · split at h
      · cases h
      · split at h
        · cases h
        · rename_i h1 _ _ h4
          unfold firstB
          omega
/-- A row of elements of two cells each, cell by cell. -/
theorem own_flatJ {w : World} {base e g n : Nat} {xs : List Value} {f : Nat → Value} (h : w.ownsRow base e 2 (.slice (some ⟨g, 0, none⟩) n n) n xs) (hn : n ≤ 1000) (hx : xs = rowF (n * 2) f) : Own w base e g (n * 2) (n * 2) f := by
  subst hx
  rcases h.2 with ⟨h0, _⟩ | ⟨g', cap', cur, hv, hb, hg, h1, h2, h3, h4⟩
  · cases h0
  injection hv with e1 e2 e3
  injection e1 with e1
  injection e1 with e1
  subst e1 e3
  exact ⟨by rw [rowF_length, Nat.mul_one], .inr ⟨g, n * 2, cur, rfl, hb, hg, Nat.le_refl _, by unfold maxLen; omega, by rw [Nat.mul_one]; exact h3, by rw [Nat.mul_one]; exact h4⟩⟩
/-- The cells when j of them were laid. -/
def cellG (H : Nat → Bool) (B : Nat → GF) (j t : Nat) : Value :=
  if t % 2 = 0 then .bool (decide (t / 2 < j) && H (t / 2)) else if t / 2 < j ∧ H (t / 2) = true then gfV B (t / 2) else .int .u8 0
theorem cellG_zero (H : Nat → Bool) (B : Nat → GF) (n : Nat) : (madeCells (Value.agg #[.bool false, .int .u8 0]).cells (n * 2)).toList = rowF (n * 2) (cellG H B 0) := by
  have hz : (Value.agg #[Value.bool false, .int .u8 0]).cells = #[.bool false, .int .u8 0] := by rfl
  rw [hz]
  apply List.ext_getElem?
  intro j
  by_cases hj : j < n * 2
  · rw [rowF_get _ hj]
    unfold cellG
    have hm : j % 2 = 0 ∨ j % 2 = 1 := by omega
    rcases hm with hm | hm
    · simp [madeCells, hj, hm]
    · simp [madeCells, hj, hm]
  · rw [List.getElem?_eq_none (by simp [madeCells]; omega), List.getElem?_eq_none (by rw [rowF_length]; omega)]
theorem cellG_no {H : Nat → Bool} {B : Nat → GF} {j : Nat} (h : H j = false) (t : Nat) : cellG H B j t = cellG H B (j + 1) t := by
  unfold cellG
  by_cases h1 : t / 2 = j
  · subst h1
    simp [h]
  · have h2 : (t / 2 < j) ↔ (t / 2 < j + 1) := by omega
    simp [h2]
theorem cellG_yes {H : Nat → Bool} {B : Nat → GF} {j : Nat} (h : H j = true) (t : Nat) : (if t = j * 2 + 1 then .int .u8 ((B j).val : Int) else if t = j * 2 then .bool true else cellG H B j t) = cellG H B (j + 1) t := by
  unfold cellG
  by_cases h1 : t = j * 2 + 1
  · rw [if_pos h1]
    have e1 : t % 2 = 1 := by omega
    have e2 : t / 2 = j := by omega
    rw [if_neg (by omega), if_pos ⟨by omega, by rw [e2]; exact h⟩, e2]
    rfl
  · rw [if_neg h1]
    by_cases h2 : t = j * 2
    · rw [if_pos h2]
      have e1 : t % 2 = 0 := by omega
      have e2 : t / 2 = j := by omega
      rw [if_pos e1, e2, h]
      simp
    · rw [if_neg h2]
      have h3 : (t / 2 < j) ↔ (t / 2 < j + 1) := by omega
      simp [h3]
theorem cellG_all {w : World} {ao : Option Addr} {H : Nat → Bool} {B : Nat → GF} {n : Nat} (h : Reads w ao (rowF (n * 2) (cellG H B n))) (hB : ∀ j, j < n → H j = false → B j = 0) : Reads w ao (cellV H B n) := by
  have e : rowF (n * 2) (cellG H B n) = cellV H B n := by
    apply List.ext_getElem?
    intro t
    by_cases ht : t < n * 2
    · rw [rowF_get _ ht]
      have hh : t / 2 < n := by omega
      obtain ⟨c1, c2⟩ := cellV_get H B hh
      unfold cellG
      have hm : t % 2 = 0 ∨ t % 2 = 1 := by omega
      rcases hm with hm | hm
      · rw [if_pos hm]
        rw [show t / 2 * 2 = t by omega] at c1
        rw [c1]
        simp [hh]
      · rw [if_neg (by omega)]
        rw [show t / 2 * 2 + 1 = t by omega] at c2
        rw [c2]
        cases hH : H (t / 2) with
        | true => rw [if_pos ⟨hh, rfl⟩]; rfl
        | false => rw [if_neg (by simp), hB _ hh hH]; rfl
    · rw [List.getElem?_eq_none (by rw [rowF_length]; omega)]
      rw [List.getElem?_eq_none]
      unfold cellV
      rw [cells2_length]
      simp
      omega
  rw [← e]; exact h
theorem bJ_no {ss : List ByteArray} {k : Int} {i j : Nat} (h : usB ss k j = false) : bJ ss k i j = 0 := by unfold bJ; rw [if_neg (by rw [h]; simp)]
theorem bJ_yes {ss : List ByteArray} {k : Int} {i j : Nat} (h : usB ss k j = true) : ((bJ ss k i j).val : Int) = (byteS (sAt ss j) (1 + i) : Nat) := by unfold bJ; rw [if_pos h, gf_val (byteS_lt _ _)]
theorem lag_zero (xs : Nat → GF) (k : Nat) (x : GF) : lag xs (fun _ => 0) k x = 0 := by
  have h1 : ∀ i m, lagT xs (0 : GF) i x m = 0 := by
    intro i m
    induction m with
    | zero => rfl
    | succ m ih => unfold lagT; split; exact ih; rw [ih, gfld.zero_mul]
  have h2 : ∀ i, lagS xs (fun _ => (0 : GF)) k x i = 0 := by
    intro i
    induction i with
    | zero => rfl
    | succ i ih => unfold lagS; rw [ih, h1, gfld.add_zero]
  exact h2 k
theorem fit_zero (H : Nat → Bool) (l : List Nat) (k n : Nat) : Fit H (fun _ => 0) l k n := by
  intro a _ _
  unfold rowP byP
  exact lag_zero _ _ _
end Go.Proofs.Ytioecklnijhjgaa
