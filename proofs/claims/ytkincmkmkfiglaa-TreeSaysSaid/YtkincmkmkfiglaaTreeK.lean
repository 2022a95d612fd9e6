/- The walk of wholelaw.TreeSays (printed by gen_tree.py). -/
import Derived.Test.YtkincmkmkfiglaaRows
import Derived.Test.YtkincmkmkfiglaaTree6
import Derived.Test.YtkincmkmkfiglaaTree7
import Derived.Test.YtkincmkmkfiglaaTree10
import Derived.Test.YtkincmkmkfiglaaTree11
import Derived.Test.YtkincmkmkfiglaaEqualU64
namespace Go.Proofs.Ytkincmkmkfiglaa
open Go.RowKit

set_option linter.unusedVariables false
theorem below_q {B : Nat} {w X : World} (h : Below B w X) (q : Nat) : Below B w (X.drewN q) := below_drewN h q
theorem chk_of {n k x a : Nat} {p : List Nat} {R : Nat × Bool} (h2 : n ≤ 16) (hk : k < n) (h : comes nodeN n k x p = R) : (chk nodeN n k x p == some a) = (R.2 && R.1 == a) := by
  rw [← h, fin2_is, comes_chk nodeN h2 hk]

set_option maxRecDepth 100000 in
set_option maxHeartbeats 4000000 in
theorem tree_L0_N0 (ss : List ByteArray) (len : Nat) (ao : Option Addr) (cap : Nat) (k : Int) (A B : Nat) (n : Int) (s : ByteArray) (P : List Nat) (lp : Nat) (bo : Option Addr) (cp : Nat) (w : World) (hA : A < 18446744073709551616) (hB : B < 18446744073709551616) (hs : s.size ≤ 9223372036854775807) (hP : P.length = lp) (hc2 : lp ≤ cp) (hc3 : cp ≤ 9223372036854775807) (hbp : Hid (∀ x ∈ P, x < 18446744073709551616)) (hRP : Hid (Reads w bo (uL P))) (hlen : len = 0) (hn : n < 1) :
    Calls Try.prog 7 #[.slice ao len cap, .int .i64 k, .int .u64 A, .int .u64 B, .int .i64 n, .string s, .slice bo lp cp] w fun e w' => e = .returned (.bool true) ∧ Below w.heap.size w w' := by
  subst hlen
  have n1 : decide (n < 1) = true := by simp; omega
  have HRoot := Lib.hid fun X (hX : Below w.heap.size w X) => (Root_bad 0 ao cap X (by omega)).mono fun e w' (h : _ ∧ _) => And.intro h.1 (h.2 ▸ hX : Below w.heap.size w w')
  have HProve := Lib.hid fun X (hX : Below w.heap.size w X) => (Prove_bad 0 ao cap k X (by omega)).mono fun e w' (h : _ ∧ _) => And.intro h.1 (h.2 ▸ hX : Below w.heap.size w w')
  have HCheck := Lib.hid fun X (hX : Below w.heap.size w X) => (Check_large A n k s bo lp cp X (by omega)).mono fun e w' (h : _ ∧ _) => And.intro h.1 (h.2 ▸ hX : Below w.heap.size w w')
  have HLeaf := Lib.hid fun X => tree_Leaf s X hs
  have HLeafO := Lib.hid fun X => ref_LeafOf s X hs
  have HNode := Lib.hid fun X => tree_Node A B X hA hB
  have HNodeO := Lib.hid fun X => ref_NodeOf A B X hA hB
  obtain ⟨F, hF⟩ : ∃ F, leafN s = F := ⟨_, rfl⟩
  rw [hF] at HLeaf HLeafO
  obtain ⟨D, hD⟩ : ∃ D, nodeN A B = D := ⟨_, rfl⟩
  rw [hD] at HNode HNodeO
  clear hF hD
  go_enter Try.func7, Try.ntmps7
  go_wp2_with fail
  refine (HRoot.out _ (Below.refl _ _)).mono ?_
  rintro e w1 ⟨rfl, hb1⟩
  have HB1 := Lib.hid hb1
  clear hb1
  go_wp2_with fail
  refine (HProve.out _ HB1.out).mono ?_
  rintro e w2 ⟨rfl, hb2⟩
  have HB2 := Lib.hid hb2
  clear hb2
  go_wp2_with fail
  refine (HCheck.out _ HB2.out).mono ?_
  rintro e w3 ⟨rfl, hb3⟩
  have HB3 := Lib.hid hb3
  clear hb3
  go_wp2_with fail
  refine (HLeaf.out _).mono ?_
  rintro e w' ⟨rfl, rfl⟩
  go_wp2_with fail
  refine (HLeafO.out _).mono ?_
  rintro e w' ⟨rfl, rfl⟩
  go_wp2_with fail
  refine (HNode.out _).mono ?_
  rintro e w' ⟨rfl, rfl⟩
  go_wp2_with fail
  refine (HNodeO.out _).mono ?_
  rintro e w' ⟨rfl, rfl⟩
  go_wp2_with fail
  go_ret
  exact ⟨rfl, HB3.out⟩
set_option maxRecDepth 100000 in
set_option maxHeartbeats 4000000 in
theorem tree_L0_N1 (ss : List ByteArray) (len : Nat) (ao : Option Addr) (cap : Nat) (k : Int) (A B : Nat) (n : Int) (s : ByteArray) (P : List Nat) (lp : Nat) (bo : Option Addr) (cp : Nat) (w : World) (hA : A < 18446744073709551616) (hB : B < 18446744073709551616) (hs : s.size ≤ 9223372036854775807) (hP : P.length = lp) (hc2 : lp ≤ cp) (hc3 : cp ≤ 9223372036854775807) (hbp : Hid (∀ x ∈ P, x < 18446744073709551616)) (hRP : Hid (Reads w bo (uL P))) (hlen : len = 0) (hn : 16 < n) :
    Calls Try.prog 7 #[.slice ao len cap, .int .i64 k, .int .u64 A, .int .u64 B, .int .i64 n, .string s, .slice bo lp cp] w fun e w' => e = .returned (.bool true) ∧ Below w.heap.size w w' := by
  subst hlen
  have n1 : decide (n < 1) = false := by simp; omega
  have n2 : decide (16 < n) = true := by simp; omega
  have HRoot := Lib.hid fun X (hX : Below w.heap.size w X) => (Root_bad 0 ao cap X (by omega)).mono fun e w' (h : _ ∧ _) => And.intro h.1 (h.2 ▸ hX : Below w.heap.size w w')
  have HProve := Lib.hid fun X (hX : Below w.heap.size w X) => (Prove_bad 0 ao cap k X (by omega)).mono fun e w' (h : _ ∧ _) => And.intro h.1 (h.2 ▸ hX : Below w.heap.size w w')
  have HCheck := Lib.hid fun X (hX : Below w.heap.size w X) => (Check_large A n k s bo lp cp X (by omega)).mono fun e w' (h : _ ∧ _) => And.intro h.1 (h.2 ▸ hX : Below w.heap.size w w')
  have HLeaf := Lib.hid fun X => tree_Leaf s X hs
  have HLeafO := Lib.hid fun X => ref_LeafOf s X hs
  have HNode := Lib.hid fun X => tree_Node A B X hA hB
  have HNodeO := Lib.hid fun X => ref_NodeOf A B X hA hB
  obtain ⟨F, hF⟩ : ∃ F, leafN s = F := ⟨_, rfl⟩
  rw [hF] at HLeaf HLeafO
  obtain ⟨D, hD⟩ : ∃ D, nodeN A B = D := ⟨_, rfl⟩
  rw [hD] at HNode HNodeO
  clear hF hD
  go_enter Try.func7, Try.ntmps7
  go_wp2_with fail
  refine (HRoot.out _ (Below.refl _ _)).mono ?_
  rintro e w1 ⟨rfl, hb1⟩
  have HB1 := Lib.hid hb1
  clear hb1
  go_wp2_with fail
  refine (HProve.out _ HB1.out).mono ?_
  rintro e w2 ⟨rfl, hb2⟩
  have HB2 := Lib.hid hb2
  clear hb2
  go_wp2_with fail
  refine (HCheck.out _ HB2.out).mono ?_
  rintro e w3 ⟨rfl, hb3⟩
  have HB3 := Lib.hid hb3
  clear hb3
  go_wp2_with fail
  refine (HLeaf.out _).mono ?_
  rintro e w' ⟨rfl, rfl⟩
  go_wp2_with fail
  refine (HLeafO.out _).mono ?_
  rintro e w' ⟨rfl, rfl⟩
  go_wp2_with fail
  refine (HNode.out _).mono ?_
  rintro e w' ⟨rfl, rfl⟩
  go_wp2_with fail
  refine (HNodeO.out _).mono ?_
  rintro e w' ⟨rfl, rfl⟩
  go_wp2_with fail
  go_ret
  exact ⟨rfl, HB3.out⟩
set_option maxRecDepth 100000 in
set_option maxHeartbeats 4000000 in
theorem tree_L0_NN (ss : List ByteArray) (len : Nat) (ao : Option Addr) (cap : Nat) (k : Int) (A B : Nat) (n : Int) (s : ByteArray) (P : List Nat) (lp : Nat) (bo : Option Addr) (cp : Nat) (w : World) (hA : A < 18446744073709551616) (hB : B < 18446744073709551616) (hs : s.size ≤ 9223372036854775807) (hP : P.length = lp) (hc2 : lp ≤ cp) (hc3 : cp ≤ 9223372036854775807) (hbp : Hid (∀ x ∈ P, x < 18446744073709551616)) (hRP : Hid (Reads w bo (uL P))) (hlen : len = 0) (hn : 1 ≤ n ∧ n ≤ 16 ∧ k < 0) :
    Calls Try.prog 7 #[.slice ao len cap, .int .i64 k, .int .u64 A, .int .u64 B, .int .i64 n, .string s, .slice bo lp cp] w fun e w' => e = .returned (.bool true) ∧ Below w.heap.size w w' := by
  subst hlen
  have k1 : decide (k < 0) = true := by simp; omega
  have n1 : decide (n < 1) = false := by simp; omega
  have n2 : decide (16 < n) = false := by simp; omega
  have HRoot := Lib.hid fun X (hX : Below w.heap.size w X) => (Root_bad 0 ao cap X (by omega)).mono fun e w' (h : _ ∧ _) => And.intro h.1 (h.2 ▸ hX : Below w.heap.size w w')
  have HProve := Lib.hid fun X (hX : Below w.heap.size w X) => (Prove_bad 0 ao cap k X (by omega)).mono fun e w' (h : _ ∧ _) => And.intro h.1 (h.2 ▸ hX : Below w.heap.size w w')
  have HCheck := Lib.hid fun X (hX : Below w.heap.size w X) => (Check_none A n k s bo lp cp X (by omega) (by omega) (by omega)).mono fun e w' (h : _ ∧ _) => And.intro h.1 (h.2 ▸ hX : Below w.heap.size w w')
  have HLeaf := Lib.hid fun X => tree_Leaf s X hs
  have HLeafO := Lib.hid fun X => ref_LeafOf s X hs
  have HNode := Lib.hid fun X => tree_Node A B X hA hB
  have HNodeO := Lib.hid fun X => ref_NodeOf A B X hA hB
  obtain ⟨F, hF⟩ : ∃ F, leafN s = F := ⟨_, rfl⟩
  rw [hF] at HLeaf HLeafO
  obtain ⟨D, hD⟩ : ∃ D, nodeN A B = D := ⟨_, rfl⟩
  rw [hD] at HNode HNodeO
  clear hF hD
  go_enter Try.func7, Try.ntmps7
  go_wp2_with fail
  refine (HRoot.out _ (Below.refl _ _)).mono ?_
  rintro e w1 ⟨rfl, hb1⟩
  have HB1 := Lib.hid hb1
  clear hb1
  go_wp2_with fail
  refine (HProve.out _ HB1.out).mono ?_
  rintro e w2 ⟨rfl, hb2⟩
  have HB2 := Lib.hid hb2
  clear hb2
  go_wp2_with fail
  refine (HCheck.out _ HB2.out).mono ?_
  rintro e w3 ⟨rfl, hb3⟩
  have HB3 := Lib.hid hb3
  clear hb3
  go_wp2_with fail
  refine (HLeaf.out _).mono ?_
  rintro e w' ⟨rfl, rfl⟩
  go_wp2_with fail
  refine (HLeafO.out _).mono ?_
  rintro e w' ⟨rfl, rfl⟩
  go_wp2_with fail
  refine (HNode.out _).mono ?_
  rintro e w' ⟨rfl, rfl⟩
  go_wp2_with fail
  refine (HNodeO.out _).mono ?_
  rintro e w' ⟨rfl, rfl⟩
  go_wp2_with fail
  go_ret
  exact ⟨rfl, HB3.out⟩
set_option maxRecDepth 100000 in
set_option maxHeartbeats 4000000 in
theorem tree_L0_NB (ss : List ByteArray) (len : Nat) (ao : Option Addr) (cap : Nat) (k : Int) (A B : Nat) (n : Int) (s : ByteArray) (P : List Nat) (lp : Nat) (bo : Option Addr) (cp : Nat) (w : World) (hA : A < 18446744073709551616) (hB : B < 18446744073709551616) (hs : s.size ≤ 9223372036854775807) (hP : P.length = lp) (hc2 : lp ≤ cp) (hc3 : cp ≤ 9223372036854775807) (hbp : Hid (∀ x ∈ P, x < 18446744073709551616)) (hRP : Hid (Reads w bo (uL P))) (hlen : len = 0) (hn : 1 ≤ n ∧ n ≤ 16 ∧ n ≤ k ∧ 0 ≤ k) :
    Calls Try.prog 7 #[.slice ao len cap, .int .i64 k, .int .u64 A, .int .u64 B, .int .i64 n, .string s, .slice bo lp cp] w fun e w' => e = .returned (.bool true) ∧ Below w.heap.size w w' := by
  subst hlen
  have k1 : decide (k < 0) = false := by simp; omega
  have n1 : decide (n < 1) = false := by simp; omega
  have n2 : decide (16 < n) = false := by simp; omega
  have n3 : decide (n ≤ k) = true := by simp; omega
  have HRoot := Lib.hid fun X (hX : Below w.heap.size w X) => (Root_bad 0 ao cap X (by omega)).mono fun e w' (h : _ ∧ _) => And.intro h.1 (h.2 ▸ hX : Below w.heap.size w w')
  have HProve := Lib.hid fun X (hX : Below w.heap.size w X) => (Prove_bad 0 ao cap k X (by omega)).mono fun e w' (h : _ ∧ _) => And.intro h.1 (h.2 ▸ hX : Below w.heap.size w w')
  have HCheck := Lib.hid fun X (hX : Below w.heap.size w X) => (Check_none A n k s bo lp cp X (by omega) (by omega) (by omega)).mono fun e w' (h : _ ∧ _) => And.intro h.1 (h.2 ▸ hX : Below w.heap.size w w')
  have HLeaf := Lib.hid fun X => tree_Leaf s X hs
  have HLeafO := Lib.hid fun X => ref_LeafOf s X hs
  have HNode := Lib.hid fun X => tree_Node A B X hA hB
  have HNodeO := Lib.hid fun X => ref_NodeOf A B X hA hB
  obtain ⟨F, hF⟩ : ∃ F, leafN s = F := ⟨_, rfl⟩
  rw [hF] at HLeaf HLeafO
  obtain ⟨D, hD⟩ : ∃ D, nodeN A B = D := ⟨_, rfl⟩
  rw [hD] at HNode HNodeO
  clear hF hD
  go_enter Try.func7, Try.ntmps7
  go_wp2_with fail
  refine (HRoot.out _ (Below.refl _ _)).mono ?_
  rintro e w1 ⟨rfl, hb1⟩
  have HB1 := Lib.hid hb1
  clear hb1
  go_wp2_with fail
  refine (HProve.out _ HB1.out).mono ?_
  rintro e w2 ⟨rfl, hb2⟩
  have HB2 := Lib.hid hb2
  clear hb2
  go_wp2_with fail
  refine (HCheck.out _ HB2.out).mono ?_
  rintro e w3 ⟨rfl, hb3⟩
  have HB3 := Lib.hid hb3
  clear hb3
  go_wp2_with fail
  refine (HLeaf.out _).mono ?_
  rintro e w' ⟨rfl, rfl⟩
  go_wp2_with fail
  refine (HLeafO.out _).mono ?_
  rintro e w' ⟨rfl, rfl⟩
  go_wp2_with fail
  refine (HNode.out _).mono ?_
  rintro e w' ⟨rfl, rfl⟩
  go_wp2_with fail
  refine (HNodeO.out _).mono ?_
  rintro e w' ⟨rfl, rfl⟩
  go_wp2_with fail
  go_ret
  exact ⟨rfl, HB3.out⟩
set_option maxRecDepth 100000 in
set_option maxHeartbeats 4000000 in
theorem tree_L0_NO (ss : List ByteArray) (len : Nat) (ao : Option Addr) (cap : Nat) (k : Int) (A B : Nat) (n : Int) (s : ByteArray) (P : List Nat) (lp : Nat) (bo : Option Addr) (cp : Nat) (w : World) (hA : A < 18446744073709551616) (hB : B < 18446744073709551616) (hs : s.size ≤ 9223372036854775807) (hP : P.length = lp) (hc2 : lp ≤ cp) (hc3 : cp ≤ 9223372036854775807) (hbp : Hid (∀ x ∈ P, x < 18446744073709551616)) (hRP : Hid (Reads w bo (uL P))) (hlen : len = 0) (hn : 1 ≤ n ∧ n ≤ 16 ∧ 0 ≤ k ∧ k < n) :
    Calls Try.prog 7 #[.slice ao len cap, .int .i64 k, .int .u64 A, .int .u64 B, .int .i64 n, .string s, .slice bo lp cp] w fun e w' => e = .returned (.bool true) ∧ Below w.heap.size w w' := by
  subst hlen
  have k1 : decide (k < 0) = false := by simp; omega
  have n1 : decide (n < 1) = false := by simp; omega
  have n2 : decide (16 < n) = false := by simp; omega
  have n3 : decide (n ≤ k) = false := by simp; omega
  have HRoot := Lib.hid fun X (hX : Below w.heap.size w X) => (Root_bad 0 ao cap X (by omega)).mono fun e w' (h : _ ∧ _) => And.intro h.1 (h.2 ▸ hX : Below w.heap.size w w')
  have HProve := Lib.hid fun X (hX : Below w.heap.size w X) => (Prove_bad 0 ao cap k X (by omega)).mono fun e w' (h : _ ∧ _) => And.intro h.1 (h.2 ▸ hX : Below w.heap.size w w')
  obtain ⟨K, rfl⟩ : ∃ K : Nat, k = K := ⟨k.toNat, by omega⟩
  obtain ⟨N, rfl⟩ : ∃ N : Nat, n = N := ⟨n.toNat, by omega⟩
  have HCheck := Lib.hid fun X (hX : Below w.heap.size w X) => (Check_good A N K s P bo lp cp X hA (by omega) (by omega) (by omega) hs hP hc2 hc3 hbp (hRP.out.below hX)).mono fun e w' (h : _ ∧ _) => And.intro h.1 (h.2 ▸ hX : Below w.heap.size w w')
  have HComes : Hid (∀ X, Below w.heap.size w X → Calls Try.prog 49 #[.int .i64 N, .int .i64 K, .int .u64 (leafN s : Nat), .slice bo lp cp] X fun e w' => e = .returned (.tuple #[.int .u64 ((comes nodeN N K (leafN s) P).1 : Nat), .bool (comes nodeN N K (leafN s) P).2]) ∧ Below w.heap.size w w') := Lib.hid fun X (hX : Below w.heap.size w X) => (ref_ComesTo N N K (leafN s) P bo lp cp X (by omega) (by omega) (Nat.le_refl _) (by omega) (leafN_lt s (by omega)) hP hc2 hc3 hbp (hRP.out.below hX)).mono fun e w' h => ⟨h.1.1, h.2 ▸ hX⟩
  obtain ⟨R, hR2⟩ : ∃ R, comes nodeN N K (leafN s) P = R := ⟨_, rfl⟩
  rw [chk_of (by omega) (by omega) hR2] at HCheck
  rw [hR2] at HComes
  clear hR2
  obtain ⟨y, ok⟩ := R
  dsimp only at HCheck HComes
  have HLeaf := Lib.hid fun X => tree_Leaf s X hs
  have HLeafO := Lib.hid fun X => ref_LeafOf s X hs
  have HNode := Lib.hid fun X => tree_Node A B X hA hB
  have HNodeO := Lib.hid fun X => ref_NodeOf A B X hA hB
  obtain ⟨F, hF⟩ : ∃ F, leafN s = F := ⟨_, rfl⟩
  rw [hF] at HLeaf HLeafO HComes
  obtain ⟨D, hD⟩ : ∃ D, nodeN A B = D := ⟨_, rfl⟩
  rw [hD] at HNode HNodeO
  clear hF hD
  have hsp : ok = false ∨ (ok = true ∧ y = A) ∨ (ok = true ∧ y ≠ A) := by cases ok <;> by_cases hy : y = A <;> simp [hy]
  rcases hsp with rfl | ⟨rfl, rfl⟩ | ⟨rfl, hyA⟩
  · rw [Bool.false_and] at HCheck
    go_enter Try.func7, Try.ntmps7
    go_wp2_with fail
    refine (HRoot.out _ (Below.refl _ _)).mono ?_
    rintro e w1 ⟨rfl, hb1⟩
    have HB1 := Lib.hid hb1
    clear hb1
    go_wp2_with fail
    refine (HProve.out _ HB1.out).mono ?_
    rintro e w2 ⟨rfl, hb2⟩
    have HB2 := Lib.hid hb2
    clear hb2
    go_wp2_with fail
    refine (HCheck.out _ HB2.out).mono ?_
    rintro e w3 ⟨rfl, hb3⟩
    have HB3 := Lib.hid hb3
    clear hb3
    go_wp2_with fail
    refine (HLeaf.out _).mono ?_
    rintro e w' ⟨rfl, rfl⟩
    go_wp2_with fail
    refine (HLeafO.out _).mono ?_
    rintro e w' ⟨rfl, rfl⟩
    go_wp2_with fail
    refine (HNode.out _).mono ?_
    rintro e w' ⟨rfl, rfl⟩
    go_wp2_with fail
    refine (HNodeO.out _).mono ?_
    rintro e w' ⟨rfl, rfl⟩
    go_wp2_with fail
    refine (HLeafO.out _).mono ?_
    rintro e w' ⟨rfl, rfl⟩
    go_wp2_with fail
    refine (HComes.out _ HB3.out).mono ?_
    rintro e w7 ⟨rfl, hb7⟩
    have HB7 := Lib.hid hb7
    clear hb7
    go_wp2_with fail
    go_ret
    exact ⟨rfl, HB7.out⟩
  · rw [Bool.true_and, beq_self_eq_true] at HCheck
    go_enter Try.func7, Try.ntmps7
    go_wp2_with fail
    refine (HRoot.out _ (Below.refl _ _)).mono ?_
    rintro e w1 ⟨rfl, hb1⟩
    have HB1 := Lib.hid hb1
    clear hb1
    go_wp2_with fail
    refine (HProve.out _ HB1.out).mono ?_
    rintro e w2 ⟨rfl, hb2⟩
    have HB2 := Lib.hid hb2
    clear hb2
    go_wp2_with fail
    refine (HCheck.out _ HB2.out).mono ?_
    rintro e w3 ⟨rfl, hb3⟩
    have HB3 := Lib.hid hb3
    clear hb3
    go_wp2_with fail
    refine (HLeaf.out _).mono ?_
    rintro e w' ⟨rfl, rfl⟩
    go_wp2_with fail
    refine (HLeafO.out _).mono ?_
    rintro e w' ⟨rfl, rfl⟩
    go_wp2_with fail
    refine (HNode.out _).mono ?_
    rintro e w' ⟨rfl, rfl⟩
    go_wp2_with fail
    refine (HNodeO.out _).mono ?_
    rintro e w' ⟨rfl, rfl⟩
    go_wp2_with fail
    refine (HLeafO.out _).mono ?_
    rintro e w' ⟨rfl, rfl⟩
    go_wp2_with fail
    refine (HComes.out _ HB3.out).mono ?_
    rintro e w7 ⟨rfl, hb7⟩
    have HB7 := Lib.hid hb7
    clear hb7
    go_wp2_with fail
    go_ret
    exact ⟨rfl, HB7.out⟩
  · have e0 : (y == A) = false := by simp [hyA]
    rw [Bool.true_and, e0] at HCheck
    have e1 : ((y : Int) == (A : Int)) = false := by simp; omega
    go_enter Try.func7, Try.ntmps7
    go_wp2_with fail
    refine (HRoot.out _ (Below.refl _ _)).mono ?_
    rintro e w1 ⟨rfl, hb1⟩
    have HB1 := Lib.hid hb1
    clear hb1
    go_wp2_with fail
    refine (HProve.out _ HB1.out).mono ?_
    rintro e w2 ⟨rfl, hb2⟩
    have HB2 := Lib.hid hb2
    clear hb2
    go_wp2_with fail
    refine (HCheck.out _ HB2.out).mono ?_
    rintro e w3 ⟨rfl, hb3⟩
    have HB3 := Lib.hid hb3
    clear hb3
    go_wp2_with fail
    refine (HLeaf.out _).mono ?_
    rintro e w' ⟨rfl, rfl⟩
    go_wp2_with fail
    refine (HLeafO.out _).mono ?_
    rintro e w' ⟨rfl, rfl⟩
    go_wp2_with fail
    refine (HNode.out _).mono ?_
    rintro e w' ⟨rfl, rfl⟩
    go_wp2_with fail
    refine (HNodeO.out _).mono ?_
    rintro e w' ⟨rfl, rfl⟩
    go_wp2_with fail
    refine (HLeafO.out _).mono ?_
    rintro e w' ⟨rfl, rfl⟩
    go_wp2_with fail
    refine (HComes.out _ HB3.out).mono ?_
    rintro e w7 ⟨rfl, hb7⟩
    have HB7 := Lib.hid hb7
    clear hb7
    go_wp2_with fail
    go_ret
    exact ⟨rfl, HB7.out⟩
set_option maxRecDepth 100000 in
set_option maxHeartbeats 4000000 in
theorem tree_L1_N0 (ss : List ByteArray) (len : Nat) (ao : Option Addr) (cap : Nat) (k : Int) (A B : Nat) (n : Int) (s : ByteArray) (P : List Nat) (lp : Nat) (bo : Option Addr) (cp : Nat) (w : World) (hA : A < 18446744073709551616) (hB : B < 18446744073709551616) (hs : s.size ≤ 9223372036854775807) (hP : P.length = lp) (hc2 : lp ≤ cp) (hc3 : cp ≤ 9223372036854775807) (hbp : Hid (∀ x ∈ P, x < 18446744073709551616)) (hRP : Hid (Reads w bo (uL P))) (hlen : 16 < len) (hn : n < 1) :
    Calls Try.prog 7 #[.slice ao len cap, .int .i64 k, .int .u64 A, .int .u64 B, .int .i64 n, .string s, .slice bo lp cp] w fun e w' => e = .returned (.bool true) ∧ Below w.heap.size w w' := by
  have l1 : decide ((len : Int) < 1) = false := by simp; omega
  have l2 : decide ((16 : Int) < len) = true := by simp; omega
  have n1 : decide (n < 1) = true := by simp; omega
  have HRoot := Lib.hid fun X (hX : Below w.heap.size w X) => (Root_bad len ao cap X (by omega)).mono fun e w' (h : _ ∧ _) => And.intro h.1 (h.2 ▸ hX : Below w.heap.size w w')
  have HProve := Lib.hid fun X (hX : Below w.heap.size w X) => (Prove_bad len ao cap k X (by omega)).mono fun e w' (h : _ ∧ _) => And.intro h.1 (h.2 ▸ hX : Below w.heap.size w w')
  have HCheck := Lib.hid fun X (hX : Below w.heap.size w X) => (Check_large A n k s bo lp cp X (by omega)).mono fun e w' (h : _ ∧ _) => And.intro h.1 (h.2 ▸ hX : Below w.heap.size w w')
  have HLeaf := Lib.hid fun X => tree_Leaf s X hs
  have HLeafO := Lib.hid fun X => ref_LeafOf s X hs
  have HNode := Lib.hid fun X => tree_Node A B X hA hB
  have HNodeO := Lib.hid fun X => ref_NodeOf A B X hA hB
  obtain ⟨F, hF⟩ : ∃ F, leafN s = F := ⟨_, rfl⟩
  rw [hF] at HLeaf HLeafO
  obtain ⟨D, hD⟩ : ∃ D, nodeN A B = D := ⟨_, rfl⟩
  rw [hD] at HNode HNodeO
  clear hF hD
  go_enter Try.func7, Try.ntmps7
  go_wp2_with fail
  refine (HRoot.out _ (Below.refl _ _)).mono ?_
  rintro e w1 ⟨rfl, hb1⟩
  have HB1 := Lib.hid hb1
  clear hb1
  go_wp2_with fail
  refine (HProve.out _ HB1.out).mono ?_
  rintro e w2 ⟨rfl, hb2⟩
  have HB2 := Lib.hid hb2
  clear hb2
  go_wp2_with fail
  refine (HCheck.out _ HB2.out).mono ?_
  rintro e w3 ⟨rfl, hb3⟩
  have HB3 := Lib.hid hb3
  clear hb3
  go_wp2_with fail
  refine (HLeaf.out _).mono ?_
  rintro e w' ⟨rfl, rfl⟩
  go_wp2_with fail
  refine (HLeafO.out _).mono ?_
  rintro e w' ⟨rfl, rfl⟩
  go_wp2_with fail
  refine (HNode.out _).mono ?_
  rintro e w' ⟨rfl, rfl⟩
  go_wp2_with fail
  refine (HNodeO.out _).mono ?_
  rintro e w' ⟨rfl, rfl⟩
  go_wp2_with fail
  go_ret
  exact ⟨rfl, HB3.out⟩
set_option maxRecDepth 100000 in
set_option maxHeartbeats 4000000 in
theorem tree_L1_N1 (ss : List ByteArray) (len : Nat) (ao : Option Addr) (cap : Nat) (k : Int) (A B : Nat) (n : Int) (s : ByteArray) (P : List Nat) (lp : Nat) (bo : Option Addr) (cp : Nat) (w : World) (hA : A < 18446744073709551616) (hB : B < 18446744073709551616) (hs : s.size ≤ 9223372036854775807) (hP : P.length = lp) (hc2 : lp ≤ cp) (hc3 : cp ≤ 9223372036854775807) (hbp : Hid (∀ x ∈ P, x < 18446744073709551616)) (hRP : Hid (Reads w bo (uL P))) (hlen : 16 < len) (hn : 16 < n) :
    Calls Try.prog 7 #[.slice ao len cap, .int .i64 k, .int .u64 A, .int .u64 B, .int .i64 n, .string s, .slice bo lp cp] w fun e w' => e = .returned (.bool true) ∧ Below w.heap.size w w' := by
  have l1 : decide ((len : Int) < 1) = false := by simp; omega
  have l2 : decide ((16 : Int) < len) = true := by simp; omega
  have n1 : decide (n < 1) = false := by simp; omega
  have n2 : decide (16 < n) = true := by simp; omega
  have HRoot := Lib.hid fun X (hX : Below w.heap.size w X) => (Root_bad len ao cap X (by omega)).mono fun e w' (h : _ ∧ _) => And.intro h.1 (h.2 ▸ hX : Below w.heap.size w w')
  have HProve := Lib.hid fun X (hX : Below w.heap.size w X) => (Prove_bad len ao cap k X (by omega)).mono fun e w' (h : _ ∧ _) => And.intro h.1 (h.2 ▸ hX : Below w.heap.size w w')
  have HCheck := Lib.hid fun X (hX : Below w.heap.size w X) => (Check_large A n k s bo lp cp X (by omega)).mono fun e w' (h : _ ∧ _) => And.intro h.1 (h.2 ▸ hX : Below w.heap.size w w')
  have HLeaf := Lib.hid fun X => tree_Leaf s X hs
  have HLeafO := Lib.hid fun X => ref_LeafOf s X hs
  have HNode := Lib.hid fun X => tree_Node A B X hA hB
  have HNodeO := Lib.hid fun X => ref_NodeOf A B X hA hB
  obtain ⟨F, hF⟩ : ∃ F, leafN s = F := ⟨_, rfl⟩
  rw [hF] at HLeaf HLeafO
  obtain ⟨D, hD⟩ : ∃ D, nodeN A B = D := ⟨_, rfl⟩
  rw [hD] at HNode HNodeO
  clear hF hD
  go_enter Try.func7, Try.ntmps7
  go_wp2_with fail
  refine (HRoot.out _ (Below.refl _ _)).mono ?_
  rintro e w1 ⟨rfl, hb1⟩
  have HB1 := Lib.hid hb1
  clear hb1
  go_wp2_with fail
  refine (HProve.out _ HB1.out).mono ?_
  rintro e w2 ⟨rfl, hb2⟩
  have HB2 := Lib.hid hb2
  clear hb2
  go_wp2_with fail
  refine (HCheck.out _ HB2.out).mono ?_
  rintro e w3 ⟨rfl, hb3⟩
  have HB3 := Lib.hid hb3
  clear hb3
  go_wp2_with fail
  refine (HLeaf.out _).mono ?_
  rintro e w' ⟨rfl, rfl⟩
  go_wp2_with fail
  refine (HLeafO.out _).mono ?_
  rintro e w' ⟨rfl, rfl⟩
  go_wp2_with fail
  refine (HNode.out _).mono ?_
  rintro e w' ⟨rfl, rfl⟩
  go_wp2_with fail
  refine (HNodeO.out _).mono ?_
  rintro e w' ⟨rfl, rfl⟩
  go_wp2_with fail
  go_ret
  exact ⟨rfl, HB3.out⟩
set_option maxRecDepth 100000 in
set_option maxHeartbeats 4000000 in
theorem tree_L1_NN (ss : List ByteArray) (len : Nat) (ao : Option Addr) (cap : Nat) (k : Int) (A B : Nat) (n : Int) (s : ByteArray) (P : List Nat) (lp : Nat) (bo : Option Addr) (cp : Nat) (w : World) (hA : A < 18446744073709551616) (hB : B < 18446744073709551616) (hs : s.size ≤ 9223372036854775807) (hP : P.length = lp) (hc2 : lp ≤ cp) (hc3 : cp ≤ 9223372036854775807) (hbp : Hid (∀ x ∈ P, x < 18446744073709551616)) (hRP : Hid (Reads w bo (uL P))) (hlen : 16 < len) (hn : 1 ≤ n ∧ n ≤ 16 ∧ k < 0) :
    Calls Try.prog 7 #[.slice ao len cap, .int .i64 k, .int .u64 A, .int .u64 B, .int .i64 n, .string s, .slice bo lp cp] w fun e w' => e = .returned (.bool true) ∧ Below w.heap.size w w' := by
  have l1 : decide ((len : Int) < 1) = false := by simp; omega
  have l2 : decide ((16 : Int) < len) = true := by simp; omega
  have k1 : decide (k < 0) = true := by simp; omega
  have n1 : decide (n < 1) = false := by simp; omega
  have n2 : decide (16 < n) = false := by simp; omega
  have HRoot := Lib.hid fun X (hX : Below w.heap.size w X) => (Root_bad len ao cap X (by omega)).mono fun e w' (h : _ ∧ _) => And.intro h.1 (h.2 ▸ hX : Below w.heap.size w w')
  have HProve := Lib.hid fun X (hX : Below w.heap.size w X) => (Prove_bad len ao cap k X (by omega)).mono fun e w' (h : _ ∧ _) => And.intro h.1 (h.2 ▸ hX : Below w.heap.size w w')
  have HCheck := Lib.hid fun X (hX : Below w.heap.size w X) => (Check_none A n k s bo lp cp X (by omega) (by omega) (by omega)).mono fun e w' (h : _ ∧ _) => And.intro h.1 (h.2 ▸ hX : Below w.heap.size w w')
  have HLeaf := Lib.hid fun X => tree_Leaf s X hs
  have HLeafO := Lib.hid fun X => ref_LeafOf s X hs
  have HNode := Lib.hid fun X => tree_Node A B X hA hB
  have HNodeO := Lib.hid fun X => ref_NodeOf A B X hA hB
  obtain ⟨F, hF⟩ : ∃ F, leafN s = F := ⟨_, rfl⟩
  rw [hF] at HLeaf HLeafO
  obtain ⟨D, hD⟩ : ∃ D, nodeN A B = D := ⟨_, rfl⟩
  rw [hD] at HNode HNodeO
  clear hF hD
  go_enter Try.func7, Try.ntmps7
  go_wp2_with fail
  refine (HRoot.out _ (Below.refl _ _)).mono ?_
  rintro e w1 ⟨rfl, hb1⟩
  have HB1 := Lib.hid hb1
  clear hb1
  go_wp2_with fail
  refine (HProve.out _ HB1.out).mono ?_
  rintro e w2 ⟨rfl, hb2⟩
  have HB2 := Lib.hid hb2
  clear hb2
  go_wp2_with fail
  refine (HCheck.out _ HB2.out).mono ?_
  rintro e w3 ⟨rfl, hb3⟩
  have HB3 := Lib.hid hb3
  clear hb3
  go_wp2_with fail
  refine (HLeaf.out _).mono ?_
  rintro e w' ⟨rfl, rfl⟩
  go_wp2_with fail
  refine (HLeafO.out _).mono ?_
  rintro e w' ⟨rfl, rfl⟩
  go_wp2_with fail
  refine (HNode.out _).mono ?_
  rintro e w' ⟨rfl, rfl⟩
  go_wp2_with fail
  refine (HNodeO.out _).mono ?_
  rintro e w' ⟨rfl, rfl⟩
  go_wp2_with fail
  go_ret
  exact ⟨rfl, HB3.out⟩
set_option maxRecDepth 100000 in
set_option maxHeartbeats 4000000 in
theorem tree_L1_NB (ss : List ByteArray) (len : Nat) (ao : Option Addr) (cap : Nat) (k : Int) (A B : Nat) (n : Int) (s : ByteArray) (P : List Nat) (lp : Nat) (bo : Option Addr) (cp : Nat) (w : World) (hA : A < 18446744073709551616) (hB : B < 18446744073709551616) (hs : s.size ≤ 9223372036854775807) (hP : P.length = lp) (hc2 : lp ≤ cp) (hc3 : cp ≤ 9223372036854775807) (hbp : Hid (∀ x ∈ P, x < 18446744073709551616)) (hRP : Hid (Reads w bo (uL P))) (hlen : 16 < len) (hn : 1 ≤ n ∧ n ≤ 16 ∧ n ≤ k ∧ 0 ≤ k) :
    Calls Try.prog 7 #[.slice ao len cap, .int .i64 k, .int .u64 A, .int .u64 B, .int .i64 n, .string s, .slice bo lp cp] w fun e w' => e = .returned (.bool true) ∧ Below w.heap.size w w' := by
  have l1 : decide ((len : Int) < 1) = false := by simp; omega
  have l2 : decide ((16 : Int) < len) = true := by simp; omega
  have k1 : decide (k < 0) = false := by simp; omega
  have n1 : decide (n < 1) = false := by simp; omega
  have n2 : decide (16 < n) = false := by simp; omega
  have n3 : decide (n ≤ k) = true := by simp; omega
  have HRoot := Lib.hid fun X (hX : Below w.heap.size w X) => (Root_bad len ao cap X (by omega)).mono fun e w' (h : _ ∧ _) => And.intro h.1 (h.2 ▸ hX : Below w.heap.size w w')
  have HProve := Lib.hid fun X (hX : Below w.heap.size w X) => (Prove_bad len ao cap k X (by omega)).mono fun e w' (h : _ ∧ _) => And.intro h.1 (h.2 ▸ hX : Below w.heap.size w w')
  have HCheck := Lib.hid fun X (hX : Below w.heap.size w X) => (Check_none A n k s bo lp cp X (by omega) (by omega) (by omega)).mono fun e w' (h : _ ∧ _) => And.intro h.1 (h.2 ▸ hX : Below w.heap.size w w')
  have HLeaf := Lib.hid fun X => tree_Leaf s X hs
  have HLeafO := Lib.hid fun X => ref_LeafOf s X hs
  have HNode := Lib.hid fun X => tree_Node A B X hA hB
  have HNodeO := Lib.hid fun X => ref_NodeOf A B X hA hB
  obtain ⟨F, hF⟩ : ∃ F, leafN s = F := ⟨_, rfl⟩
  rw [hF] at HLeaf HLeafO
  obtain ⟨D, hD⟩ : ∃ D, nodeN A B = D := ⟨_, rfl⟩
  rw [hD] at HNode HNodeO
  clear hF hD
  go_enter Try.func7, Try.ntmps7
  go_wp2_with fail
  refine (HRoot.out _ (Below.refl _ _)).mono ?_
  rintro e w1 ⟨rfl, hb1⟩
  have HB1 := Lib.hid hb1
  clear hb1
  go_wp2_with fail
  refine (HProve.out _ HB1.out).mono ?_
  rintro e w2 ⟨rfl, hb2⟩
  have HB2 := Lib.hid hb2
  clear hb2
  go_wp2_with fail
  refine (HCheck.out _ HB2.out).mono ?_
  rintro e w3 ⟨rfl, hb3⟩
  have HB3 := Lib.hid hb3
  clear hb3
  go_wp2_with fail
  refine (HLeaf.out _).mono ?_
  rintro e w' ⟨rfl, rfl⟩
  go_wp2_with fail
  refine (HLeafO.out _).mono ?_
  rintro e w' ⟨rfl, rfl⟩
  go_wp2_with fail
  refine (HNode.out _).mono ?_
  rintro e w' ⟨rfl, rfl⟩
  go_wp2_with fail
  refine (HNodeO.out _).mono ?_
  rintro e w' ⟨rfl, rfl⟩
  go_wp2_with fail
  go_ret
  exact ⟨rfl, HB3.out⟩
set_option maxRecDepth 100000 in
set_option maxHeartbeats 4000000 in
theorem tree_L1_NO (ss : List ByteArray) (len : Nat) (ao : Option Addr) (cap : Nat) (k : Int) (A B : Nat) (n : Int) (s : ByteArray) (P : List Nat) (lp : Nat) (bo : Option Addr) (cp : Nat) (w : World) (hA : A < 18446744073709551616) (hB : B < 18446744073709551616) (hs : s.size ≤ 9223372036854775807) (hP : P.length = lp) (hc2 : lp ≤ cp) (hc3 : cp ≤ 9223372036854775807) (hbp : Hid (∀ x ∈ P, x < 18446744073709551616)) (hRP : Hid (Reads w bo (uL P))) (hlen : 16 < len) (hn : 1 ≤ n ∧ n ≤ 16 ∧ 0 ≤ k ∧ k < n) :
    Calls Try.prog 7 #[.slice ao len cap, .int .i64 k, .int .u64 A, .int .u64 B, .int .i64 n, .string s, .slice bo lp cp] w fun e w' => e = .returned (.bool true) ∧ Below w.heap.size w w' := by
  have l1 : decide ((len : Int) < 1) = false := by simp; omega
  have l2 : decide ((16 : Int) < len) = true := by simp; omega
  have k1 : decide (k < 0) = false := by simp; omega
  have n1 : decide (n < 1) = false := by simp; omega
  have n2 : decide (16 < n) = false := by simp; omega
  have n3 : decide (n ≤ k) = false := by simp; omega
  have HRoot := Lib.hid fun X (hX : Below w.heap.size w X) => (Root_bad len ao cap X (by omega)).mono fun e w' (h : _ ∧ _) => And.intro h.1 (h.2 ▸ hX : Below w.heap.size w w')
  have HProve := Lib.hid fun X (hX : Below w.heap.size w X) => (Prove_bad len ao cap k X (by omega)).mono fun e w' (h : _ ∧ _) => And.intro h.1 (h.2 ▸ hX : Below w.heap.size w w')
  obtain ⟨K, rfl⟩ : ∃ K : Nat, k = K := ⟨k.toNat, by omega⟩
  obtain ⟨N, rfl⟩ : ∃ N : Nat, n = N := ⟨n.toNat, by omega⟩
  have HCheck := Lib.hid fun X (hX : Below w.heap.size w X) => (Check_good A N K s P bo lp cp X hA (by omega) (by omega) (by omega) hs hP hc2 hc3 hbp (hRP.out.below hX)).mono fun e w' (h : _ ∧ _) => And.intro h.1 (h.2 ▸ hX : Below w.heap.size w w')
  have HComes : Hid (∀ X, Below w.heap.size w X → Calls Try.prog 49 #[.int .i64 N, .int .i64 K, .int .u64 (leafN s : Nat), .slice bo lp cp] X fun e w' => e = .returned (.tuple #[.int .u64 ((comes nodeN N K (leafN s) P).1 : Nat), .bool (comes nodeN N K (leafN s) P).2]) ∧ Below w.heap.size w w') := Lib.hid fun X (hX : Below w.heap.size w X) => (ref_ComesTo N N K (leafN s) P bo lp cp X (by omega) (by omega) (Nat.le_refl _) (by omega) (leafN_lt s (by omega)) hP hc2 hc3 hbp (hRP.out.below hX)).mono fun e w' h => ⟨h.1.1, h.2 ▸ hX⟩
  obtain ⟨R, hR2⟩ : ∃ R, comes nodeN N K (leafN s) P = R := ⟨_, rfl⟩
  rw [chk_of (by omega) (by omega) hR2] at HCheck
  rw [hR2] at HComes
  clear hR2
  obtain ⟨y, ok⟩ := R
  dsimp only at HCheck HComes
  have HLeaf := Lib.hid fun X => tree_Leaf s X hs
  have HLeafO := Lib.hid fun X => ref_LeafOf s X hs
  have HNode := Lib.hid fun X => tree_Node A B X hA hB
  have HNodeO := Lib.hid fun X => ref_NodeOf A B X hA hB
  obtain ⟨F, hF⟩ : ∃ F, leafN s = F := ⟨_, rfl⟩
  rw [hF] at HLeaf HLeafO HComes
  obtain ⟨D, hD⟩ : ∃ D, nodeN A B = D := ⟨_, rfl⟩
  rw [hD] at HNode HNodeO
  clear hF hD
  have hsp : ok = false ∨ (ok = true ∧ y = A) ∨ (ok = true ∧ y ≠ A) := by cases ok <;> by_cases hy : y = A <;> simp [hy]
  rcases hsp with rfl | ⟨rfl, rfl⟩ | ⟨rfl, hyA⟩
  · rw [Bool.false_and] at HCheck
    go_enter Try.func7, Try.ntmps7
    go_wp2_with fail
    refine (HRoot.out _ (Below.refl _ _)).mono ?_
    rintro e w1 ⟨rfl, hb1⟩
    have HB1 := Lib.hid hb1
    clear hb1
    go_wp2_with fail
    refine (HProve.out _ HB1.out).mono ?_
    rintro e w2 ⟨rfl, hb2⟩
    have HB2 := Lib.hid hb2
    clear hb2
    go_wp2_with fail
    refine (HCheck.out _ HB2.out).mono ?_
    rintro e w3 ⟨rfl, hb3⟩
    have HB3 := Lib.hid hb3
    clear hb3
    go_wp2_with fail
    refine (HLeaf.out _).mono ?_
    rintro e w' ⟨rfl, rfl⟩
    go_wp2_with fail
    refine (HLeafO.out _).mono ?_
    rintro e w' ⟨rfl, rfl⟩
    go_wp2_with fail
    refine (HNode.out _).mono ?_
    rintro e w' ⟨rfl, rfl⟩
    go_wp2_with fail
    refine (HNodeO.out _).mono ?_
    rintro e w' ⟨rfl, rfl⟩
    go_wp2_with fail
    refine (HLeafO.out _).mono ?_
    rintro e w' ⟨rfl, rfl⟩
    go_wp2_with fail
    refine (HComes.out _ HB3.out).mono ?_
    rintro e w7 ⟨rfl, hb7⟩
    have HB7 := Lib.hid hb7
    clear hb7
    go_wp2_with fail
    go_ret
    exact ⟨rfl, HB7.out⟩
  · rw [Bool.true_and, beq_self_eq_true] at HCheck
    go_enter Try.func7, Try.ntmps7
    go_wp2_with fail
    refine (HRoot.out _ (Below.refl _ _)).mono ?_
    rintro e w1 ⟨rfl, hb1⟩
    have HB1 := Lib.hid hb1
    clear hb1
    go_wp2_with fail
    refine (HProve.out _ HB1.out).mono ?_
    rintro e w2 ⟨rfl, hb2⟩
    have HB2 := Lib.hid hb2
    clear hb2
    go_wp2_with fail
    refine (HCheck.out _ HB2.out).mono ?_
    rintro e w3 ⟨rfl, hb3⟩
    have HB3 := Lib.hid hb3
    clear hb3
    go_wp2_with fail
    refine (HLeaf.out _).mono ?_
    rintro e w' ⟨rfl, rfl⟩
    go_wp2_with fail
    refine (HLeafO.out _).mono ?_
    rintro e w' ⟨rfl, rfl⟩
    go_wp2_with fail
    refine (HNode.out _).mono ?_
    rintro e w' ⟨rfl, rfl⟩
    go_wp2_with fail
    refine (HNodeO.out _).mono ?_
    rintro e w' ⟨rfl, rfl⟩
    go_wp2_with fail
    refine (HLeafO.out _).mono ?_
    rintro e w' ⟨rfl, rfl⟩
    go_wp2_with fail
    refine (HComes.out _ HB3.out).mono ?_
    rintro e w7 ⟨rfl, hb7⟩
    have HB7 := Lib.hid hb7
    clear hb7
    go_wp2_with fail
    go_ret
    exact ⟨rfl, HB7.out⟩
  · have e0 : (y == A) = false := by simp [hyA]
    rw [Bool.true_and, e0] at HCheck
    have e1 : ((y : Int) == (A : Int)) = false := by simp; omega
    go_enter Try.func7, Try.ntmps7
    go_wp2_with fail
    refine (HRoot.out _ (Below.refl _ _)).mono ?_
    rintro e w1 ⟨rfl, hb1⟩
    have HB1 := Lib.hid hb1
    clear hb1
    go_wp2_with fail
    refine (HProve.out _ HB1.out).mono ?_
    rintro e w2 ⟨rfl, hb2⟩
    have HB2 := Lib.hid hb2
    clear hb2
    go_wp2_with fail
    refine (HCheck.out _ HB2.out).mono ?_
    rintro e w3 ⟨rfl, hb3⟩
    have HB3 := Lib.hid hb3
    clear hb3
    go_wp2_with fail
    refine (HLeaf.out _).mono ?_
    rintro e w' ⟨rfl, rfl⟩
    go_wp2_with fail
    refine (HLeafO.out _).mono ?_
    rintro e w' ⟨rfl, rfl⟩
    go_wp2_with fail
    refine (HNode.out _).mono ?_
    rintro e w' ⟨rfl, rfl⟩
    go_wp2_with fail
    refine (HNodeO.out _).mono ?_
    rintro e w' ⟨rfl, rfl⟩
    go_wp2_with fail
    refine (HLeafO.out _).mono ?_
    rintro e w' ⟨rfl, rfl⟩
    go_wp2_with fail
    refine (HComes.out _ HB3.out).mono ?_
    rintro e w7 ⟨rfl, hb7⟩
    have HB7 := Lib.hid hb7
    clear hb7
    go_wp2_with fail
    go_ret
    exact ⟨rfl, HB7.out⟩
set_option maxRecDepth 100000 in
set_option maxHeartbeats 4000000 in
theorem tree_GN_N0 (ss : List ByteArray) (len : Nat) (ao : Option Addr) (cap : Nat) (k : Int) (A B : Nat) (n : Int) (s : ByteArray) (P : List Nat) (lp : Nat) (bo : Option Addr) (cp : Nat) (w : World) (hA : A < 18446744073709551616) (hB : B < 18446744073709551616) (hs : s.size ≤ 9223372036854775807) (hP : P.length = lp) (hc2 : lp ≤ cp) (hc3 : cp ≤ 9223372036854775807) (hbp : Hid (∀ x ∈ P, x < 18446744073709551616)) (hRP : Hid (Reads w bo (uL P))) (hl : ss.length = len) (h0 : 1 ≤ len) (h16 : len ≤ 16) (hc0 : len ≤ cap) (hc1 : cap ≤ 9223372036854775807) (hss : Hid (∀ s ∈ ss, s.size ≤ 9223372036854775807)) (hR : Hid (Reads w ao (ss.map Value.string))) (hk : k < 0) (hn : n < 1) :
    Calls Try.prog 7 #[.slice ao len cap, .int .i64 k, .int .u64 A, .int .u64 B, .int .i64 n, .string s, .slice bo lp cp] w fun e w' => e = .returned (.bool true) ∧ Below w.heap.size w w' := by
  have l1 : decide ((len : Int) < 1) = false := by simp; omega
  have l2 : decide ((16 : Int) < len) = false := by simp; omega
  have k1 : decide (k < 0) = true := by simp; omega
  have n1 : decide (n < 1) = true := by simp; omega
  have HRoot := Lib.hid fun X (hX : Below w.heap.size w X) => (Root_good ss len ao cap X hl h0 h16 hss (hR.out.below hX)).mono fun e w' (h : _ ∧ _) => And.intro h.1 (hX.trans (Below.mono h.2 hX.size) : Below w.heap.size w w')
  have HTop : Hid (∀ X, Below w.heap.size w X → Calls Try.prog 46 #[.slice ao len cap] X fun e w' => e = .returned (.int .u64 (topOf nodeN (leafL ss) : Nat)) ∧ ∃ q, w' = X.drewN q) := Lib.hid fun X (hX : Below w.heap.size w X) => by
    have h := ref_TopOf len ss len ao cap X hl h0 h16 (Nat.le_refl _) hc0 hc1 hss (hR.out.below hX)
    unfold topOf; rw [leafL_length, hl]; exact h
  have HProve := Lib.hid fun X (hX : Below w.heap.size w X) => (Prove_none ss len ao cap k X hl h0 h16 hss (hR.out.below hX) (by omega)).mono fun e w' (h : _ ∧ _) => And.intro h.1 (hX.trans (Below.mono h.2 hX.size) : Below w.heap.size w w')
  obtain ⟨T, hT⟩ : ∃ T, topOf nodeN (leafL ss) = T := ⟨_, rfl⟩
  rw [hT] at HRoot HTop
  clear hT
  have HCheck := Lib.hid fun X (hX : Below w.heap.size w X) => (Check_large A n k s bo lp cp X (by omega)).mono fun e w' (h : _ ∧ _) => And.intro h.1 (h.2 ▸ hX : Below w.heap.size w w')
  have HLeaf := Lib.hid fun X => tree_Leaf s X hs
  have HLeafO := Lib.hid fun X => ref_LeafOf s X hs
  have HNode := Lib.hid fun X => tree_Node A B X hA hB
  have HNodeO := Lib.hid fun X => ref_NodeOf A B X hA hB
  obtain ⟨F, hF⟩ : ∃ F, leafN s = F := ⟨_, rfl⟩
  rw [hF] at HLeaf HLeafO
  obtain ⟨D, hD⟩ : ∃ D, nodeN A B = D := ⟨_, rfl⟩
  rw [hD] at HNode HNodeO
  clear hF hD
  go_enter Try.func7, Try.ntmps7
  go_wp2_with fail
  refine (HRoot.out _ (Below.refl _ _)).mono ?_
  rintro e w1 ⟨rfl, hb1⟩
  have HB1 := Lib.hid hb1
  clear hb1
  go_wp2_with fail
  refine (HProve.out _ HB1.out).mono ?_
  rintro e w2 ⟨rfl, hb2⟩
  have HB2 := Lib.hid hb2
  clear hb2
  go_wp2_with fail
  refine (HCheck.out _ HB2.out).mono ?_
  rintro e w3 ⟨rfl, hb3⟩
  have HB3 := Lib.hid hb3
  clear hb3
  go_wp2_with fail
  refine (HLeaf.out _).mono ?_
  rintro e w' ⟨rfl, rfl⟩
  go_wp2_with fail
  refine (HLeafO.out _).mono ?_
  rintro e w' ⟨rfl, rfl⟩
  go_wp2_with fail
  refine (HNode.out _).mono ?_
  rintro e w' ⟨rfl, rfl⟩
  go_wp2_with fail
  refine (HNodeO.out _).mono ?_
  rintro e w' ⟨rfl, rfl⟩
  go_wp2_with fail
  refine (HTop.out _ HB3.out).mono ?_
  rintro e w' ⟨rfl, q4, rfl⟩
  have HB4 := Lib.hid (below_drewN HB3.out q4)
  go_wp2_with fail
  go_ret
  exact ⟨rfl, HB4.out⟩
set_option maxRecDepth 100000 in
set_option maxHeartbeats 4000000 in
theorem tree_GN_N1 (ss : List ByteArray) (len : Nat) (ao : Option Addr) (cap : Nat) (k : Int) (A B : Nat) (n : Int) (s : ByteArray) (P : List Nat) (lp : Nat) (bo : Option Addr) (cp : Nat) (w : World) (hA : A < 18446744073709551616) (hB : B < 18446744073709551616) (hs : s.size ≤ 9223372036854775807) (hP : P.length = lp) (hc2 : lp ≤ cp) (hc3 : cp ≤ 9223372036854775807) (hbp : Hid (∀ x ∈ P, x < 18446744073709551616)) (hRP : Hid (Reads w bo (uL P))) (hl : ss.length = len) (h0 : 1 ≤ len) (h16 : len ≤ 16) (hc0 : len ≤ cap) (hc1 : cap ≤ 9223372036854775807) (hss : Hid (∀ s ∈ ss, s.size ≤ 9223372036854775807)) (hR : Hid (Reads w ao (ss.map Value.string))) (hk : k < 0) (hn : 16 < n) :
    Calls Try.prog 7 #[.slice ao len cap, .int .i64 k, .int .u64 A, .int .u64 B, .int .i64 n, .string s, .slice bo lp cp] w fun e w' => e = .returned (.bool true) ∧ Below w.heap.size w w' := by
  have l1 : decide ((len : Int) < 1) = false := by simp; omega
  have l2 : decide ((16 : Int) < len) = false := by simp; omega
  have k1 : decide (k < 0) = true := by simp; omega
  have n1 : decide (n < 1) = false := by simp; omega
  have n2 : decide (16 < n) = true := by simp; omega
  have HRoot := Lib.hid fun X (hX : Below w.heap.size w X) => (Root_good ss len ao cap X hl h0 h16 hss (hR.out.below hX)).mono fun e w' (h : _ ∧ _) => And.intro h.1 (hX.trans (Below.mono h.2 hX.size) : Below w.heap.size w w')
  have HTop : Hid (∀ X, Below w.heap.size w X → Calls Try.prog 46 #[.slice ao len cap] X fun e w' => e = .returned (.int .u64 (topOf nodeN (leafL ss) : Nat)) ∧ ∃ q, w' = X.drewN q) := Lib.hid fun X (hX : Below w.heap.size w X) => by
    have h := ref_TopOf len ss len ao cap X hl h0 h16 (Nat.le_refl _) hc0 hc1 hss (hR.out.below hX)
    unfold topOf; rw [leafL_length, hl]; exact h
  have HProve := Lib.hid fun X (hX : Below w.heap.size w X) => (Prove_none ss len ao cap k X hl h0 h16 hss (hR.out.below hX) (by omega)).mono fun e w' (h : _ ∧ _) => And.intro h.1 (hX.trans (Below.mono h.2 hX.size) : Below w.heap.size w w')
  obtain ⟨T, hT⟩ : ∃ T, topOf nodeN (leafL ss) = T := ⟨_, rfl⟩
  rw [hT] at HRoot HTop
  clear hT
  have HCheck := Lib.hid fun X (hX : Below w.heap.size w X) => (Check_large A n k s bo lp cp X (by omega)).mono fun e w' (h : _ ∧ _) => And.intro h.1 (h.2 ▸ hX : Below w.heap.size w w')
  have HLeaf := Lib.hid fun X => tree_Leaf s X hs
  have HLeafO := Lib.hid fun X => ref_LeafOf s X hs
  have HNode := Lib.hid fun X => tree_Node A B X hA hB
  have HNodeO := Lib.hid fun X => ref_NodeOf A B X hA hB
  obtain ⟨F, hF⟩ : ∃ F, leafN s = F := ⟨_, rfl⟩
  rw [hF] at HLeaf HLeafO
  obtain ⟨D, hD⟩ : ∃ D, nodeN A B = D := ⟨_, rfl⟩
  rw [hD] at HNode HNodeO
  clear hF hD
  go_enter Try.func7, Try.ntmps7
  go_wp2_with fail
  refine (HRoot.out _ (Below.refl _ _)).mono ?_
  rintro e w1 ⟨rfl, hb1⟩
  have HB1 := Lib.hid hb1
  clear hb1
  go_wp2_with fail
  refine (HProve.out _ HB1.out).mono ?_
  rintro e w2 ⟨rfl, hb2⟩
  have HB2 := Lib.hid hb2
  clear hb2
  go_wp2_with fail
  refine (HCheck.out _ HB2.out).mono ?_
  rintro e w3 ⟨rfl, hb3⟩
  have HB3 := Lib.hid hb3
  clear hb3
  go_wp2_with fail
  refine (HLeaf.out _).mono ?_
  rintro e w' ⟨rfl, rfl⟩
  go_wp2_with fail
  refine (HLeafO.out _).mono ?_
  rintro e w' ⟨rfl, rfl⟩
  go_wp2_with fail
  refine (HNode.out _).mono ?_
  rintro e w' ⟨rfl, rfl⟩
  go_wp2_with fail
  refine (HNodeO.out _).mono ?_
  rintro e w' ⟨rfl, rfl⟩
  go_wp2_with fail
  refine (HTop.out _ HB3.out).mono ?_
  rintro e w' ⟨rfl, q4, rfl⟩
  have HB4 := Lib.hid (below_drewN HB3.out q4)
  go_wp2_with fail
  go_ret
  exact ⟨rfl, HB4.out⟩
set_option maxRecDepth 100000 in
set_option maxHeartbeats 4000000 in
theorem tree_GN_NN (ss : List ByteArray) (len : Nat) (ao : Option Addr) (cap : Nat) (k : Int) (A B : Nat) (n : Int) (s : ByteArray) (P : List Nat) (lp : Nat) (bo : Option Addr) (cp : Nat) (w : World) (hA : A < 18446744073709551616) (hB : B < 18446744073709551616) (hs : s.size ≤ 9223372036854775807) (hP : P.length = lp) (hc2 : lp ≤ cp) (hc3 : cp ≤ 9223372036854775807) (hbp : Hid (∀ x ∈ P, x < 18446744073709551616)) (hRP : Hid (Reads w bo (uL P))) (hl : ss.length = len) (h0 : 1 ≤ len) (h16 : len ≤ 16) (hc0 : len ≤ cap) (hc1 : cap ≤ 9223372036854775807) (hss : Hid (∀ s ∈ ss, s.size ≤ 9223372036854775807)) (hR : Hid (Reads w ao (ss.map Value.string))) (hk : k < 0) (hn : 1 ≤ n ∧ n ≤ 16 ∧ k < 0) :
    Calls Try.prog 7 #[.slice ao len cap, .int .i64 k, .int .u64 A, .int .u64 B, .int .i64 n, .string s, .slice bo lp cp] w fun e w' => e = .returned (.bool true) ∧ Below w.heap.size w w' := by
  have l1 : decide ((len : Int) < 1) = false := by simp; omega
  have l2 : decide ((16 : Int) < len) = false := by simp; omega
  have k1 : decide (k < 0) = true := by simp; omega
  have n1 : decide (n < 1) = false := by simp; omega
  have n2 : decide (16 < n) = false := by simp; omega
  have HRoot := Lib.hid fun X (hX : Below w.heap.size w X) => (Root_good ss len ao cap X hl h0 h16 hss (hR.out.below hX)).mono fun e w' (h : _ ∧ _) => And.intro h.1 (hX.trans (Below.mono h.2 hX.size) : Below w.heap.size w w')
  have HTop : Hid (∀ X, Below w.heap.size w X → Calls Try.prog 46 #[.slice ao len cap] X fun e w' => e = .returned (.int .u64 (topOf nodeN (leafL ss) : Nat)) ∧ ∃ q, w' = X.drewN q) := Lib.hid fun X (hX : Below w.heap.size w X) => by
    have h := ref_TopOf len ss len ao cap X hl h0 h16 (Nat.le_refl _) hc0 hc1 hss (hR.out.below hX)
    unfold topOf; rw [leafL_length, hl]; exact h
  have HProve := Lib.hid fun X (hX : Below w.heap.size w X) => (Prove_none ss len ao cap k X hl h0 h16 hss (hR.out.below hX) (by omega)).mono fun e w' (h : _ ∧ _) => And.intro h.1 (hX.trans (Below.mono h.2 hX.size) : Below w.heap.size w w')
  obtain ⟨T, hT⟩ : ∃ T, topOf nodeN (leafL ss) = T := ⟨_, rfl⟩
  rw [hT] at HRoot HTop
  clear hT
  have HCheck := Lib.hid fun X (hX : Below w.heap.size w X) => (Check_none A n k s bo lp cp X (by omega) (by omega) (by omega)).mono fun e w' (h : _ ∧ _) => And.intro h.1 (h.2 ▸ hX : Below w.heap.size w w')
  have HLeaf := Lib.hid fun X => tree_Leaf s X hs
  have HLeafO := Lib.hid fun X => ref_LeafOf s X hs
  have HNode := Lib.hid fun X => tree_Node A B X hA hB
  have HNodeO := Lib.hid fun X => ref_NodeOf A B X hA hB
  obtain ⟨F, hF⟩ : ∃ F, leafN s = F := ⟨_, rfl⟩
  rw [hF] at HLeaf HLeafO
  obtain ⟨D, hD⟩ : ∃ D, nodeN A B = D := ⟨_, rfl⟩
  rw [hD] at HNode HNodeO
  clear hF hD
  go_enter Try.func7, Try.ntmps7
  go_wp2_with fail
  refine (HRoot.out _ (Below.refl _ _)).mono ?_
  rintro e w1 ⟨rfl, hb1⟩
  have HB1 := Lib.hid hb1
  clear hb1
  go_wp2_with fail
  refine (HProve.out _ HB1.out).mono ?_
  rintro e w2 ⟨rfl, hb2⟩
  have HB2 := Lib.hid hb2
  clear hb2
  go_wp2_with fail
  refine (HCheck.out _ HB2.out).mono ?_
  rintro e w3 ⟨rfl, hb3⟩
  have HB3 := Lib.hid hb3
  clear hb3
  go_wp2_with fail
  refine (HLeaf.out _).mono ?_
  rintro e w' ⟨rfl, rfl⟩
  go_wp2_with fail
  refine (HLeafO.out _).mono ?_
  rintro e w' ⟨rfl, rfl⟩
  go_wp2_with fail
  refine (HNode.out _).mono ?_
  rintro e w' ⟨rfl, rfl⟩
  go_wp2_with fail
  refine (HNodeO.out _).mono ?_
  rintro e w' ⟨rfl, rfl⟩
  go_wp2_with fail
  refine (HTop.out _ HB3.out).mono ?_
  rintro e w' ⟨rfl, q4, rfl⟩
  have HB4 := Lib.hid (below_drewN HB3.out q4)
  go_wp2_with fail
  go_ret
  exact ⟨rfl, HB4.out⟩
set_option maxRecDepth 100000 in
set_option maxHeartbeats 4000000 in
theorem tree_GB_N0 (ss : List ByteArray) (len : Nat) (ao : Option Addr) (cap : Nat) (k : Int) (A B : Nat) (n : Int) (s : ByteArray) (P : List Nat) (lp : Nat) (bo : Option Addr) (cp : Nat) (w : World) (hA : A < 18446744073709551616) (hB : B < 18446744073709551616) (hs : s.size ≤ 9223372036854775807) (hP : P.length = lp) (hc2 : lp ≤ cp) (hc3 : cp ≤ 9223372036854775807) (hbp : Hid (∀ x ∈ P, x < 18446744073709551616)) (hRP : Hid (Reads w bo (uL P))) (hl : ss.length = len) (h0 : 1 ≤ len) (h16 : len ≤ 16) (hc0 : len ≤ cap) (hc1 : cap ≤ 9223372036854775807) (hss : Hid (∀ s ∈ ss, s.size ≤ 9223372036854775807)) (hR : Hid (Reads w ao (ss.map Value.string))) (hk : (len : Int) ≤ k) (hn : n < 1) :
    Calls Try.prog 7 #[.slice ao len cap, .int .i64 k, .int .u64 A, .int .u64 B, .int .i64 n, .string s, .slice bo lp cp] w fun e w' => e = .returned (.bool true) ∧ Below w.heap.size w w' := by
  have l1 : decide ((len : Int) < 1) = false := by simp; omega
  have l2 : decide ((16 : Int) < len) = false := by simp; omega
  have k1 : decide (k < 0) = false := by simp; omega
  have k2 : decide ((len : Int) ≤ k) = true := by simp; omega
  have n1 : decide (n < 1) = true := by simp; omega
  have HRoot := Lib.hid fun X (hX : Below w.heap.size w X) => (Root_good ss len ao cap X hl h0 h16 hss (hR.out.below hX)).mono fun e w' (h : _ ∧ _) => And.intro h.1 (hX.trans (Below.mono h.2 hX.size) : Below w.heap.size w w')
  have HTop : Hid (∀ X, Below w.heap.size w X → Calls Try.prog 46 #[.slice ao len cap] X fun e w' => e = .returned (.int .u64 (topOf nodeN (leafL ss) : Nat)) ∧ ∃ q, w' = X.drewN q) := Lib.hid fun X (hX : Below w.heap.size w X) => by
    have h := ref_TopOf len ss len ao cap X hl h0 h16 (Nat.le_refl _) hc0 hc1 hss (hR.out.below hX)
    unfold topOf; rw [leafL_length, hl]; exact h
  have HProve := Lib.hid fun X (hX : Below w.heap.size w X) => (Prove_none ss len ao cap k X hl h0 h16 hss (hR.out.below hX) (by omega)).mono fun e w' (h : _ ∧ _) => And.intro h.1 (hX.trans (Below.mono h.2 hX.size) : Below w.heap.size w w')
  obtain ⟨T, hT⟩ : ∃ T, topOf nodeN (leafL ss) = T := ⟨_, rfl⟩
  rw [hT] at HRoot HTop
  clear hT
  have HCheck := Lib.hid fun X (hX : Below w.heap.size w X) => (Check_large A n k s bo lp cp X (by omega)).mono fun e w' (h : _ ∧ _) => And.intro h.1 (h.2 ▸ hX : Below w.heap.size w w')
  have HLeaf := Lib.hid fun X => tree_Leaf s X hs
  have HLeafO := Lib.hid fun X => ref_LeafOf s X hs
  have HNode := Lib.hid fun X => tree_Node A B X hA hB
  have HNodeO := Lib.hid fun X => ref_NodeOf A B X hA hB
  obtain ⟨F, hF⟩ : ∃ F, leafN s = F := ⟨_, rfl⟩
  rw [hF] at HLeaf HLeafO
  obtain ⟨D, hD⟩ : ∃ D, nodeN A B = D := ⟨_, rfl⟩
  rw [hD] at HNode HNodeO
  clear hF hD
  go_enter Try.func7, Try.ntmps7
  go_wp2_with fail
  refine (HRoot.out _ (Below.refl _ _)).mono ?_
  rintro e w1 ⟨rfl, hb1⟩
  have HB1 := Lib.hid hb1
  clear hb1
  go_wp2_with fail
  refine (HProve.out _ HB1.out).mono ?_
  rintro e w2 ⟨rfl, hb2⟩
  have HB2 := Lib.hid hb2
  clear hb2
  go_wp2_with fail
  refine (HCheck.out _ HB2.out).mono ?_
  rintro e w3 ⟨rfl, hb3⟩
  have HB3 := Lib.hid hb3
  clear hb3
  go_wp2_with fail
  refine (HLeaf.out _).mono ?_
  rintro e w' ⟨rfl, rfl⟩
  go_wp2_with fail
  refine (HLeafO.out _).mono ?_
  rintro e w' ⟨rfl, rfl⟩
  go_wp2_with fail
  refine (HNode.out _).mono ?_
  rintro e w' ⟨rfl, rfl⟩
  go_wp2_with fail
  refine (HNodeO.out _).mono ?_
  rintro e w' ⟨rfl, rfl⟩
  go_wp2_with fail
  refine (HTop.out _ HB3.out).mono ?_
  rintro e w' ⟨rfl, q4, rfl⟩
  have HB4 := Lib.hid (below_drewN HB3.out q4)
  go_wp2_with fail
  go_ret
  exact ⟨rfl, HB4.out⟩
set_option maxRecDepth 100000 in
set_option maxHeartbeats 4000000 in
theorem tree_GB_N1 (ss : List ByteArray) (len : Nat) (ao : Option Addr) (cap : Nat) (k : Int) (A B : Nat) (n : Int) (s : ByteArray) (P : List Nat) (lp : Nat) (bo : Option Addr) (cp : Nat) (w : World) (hA : A < 18446744073709551616) (hB : B < 18446744073709551616) (hs : s.size ≤ 9223372036854775807) (hP : P.length = lp) (hc2 : lp ≤ cp) (hc3 : cp ≤ 9223372036854775807) (hbp : Hid (∀ x ∈ P, x < 18446744073709551616)) (hRP : Hid (Reads w bo (uL P))) (hl : ss.length = len) (h0 : 1 ≤ len) (h16 : len ≤ 16) (hc0 : len ≤ cap) (hc1 : cap ≤ 9223372036854775807) (hss : Hid (∀ s ∈ ss, s.size ≤ 9223372036854775807)) (hR : Hid (Reads w ao (ss.map Value.string))) (hk : (len : Int) ≤ k) (hn : 16 < n) :
    Calls Try.prog 7 #[.slice ao len cap, .int .i64 k, .int .u64 A, .int .u64 B, .int .i64 n, .string s, .slice bo lp cp] w fun e w' => e = .returned (.bool true) ∧ Below w.heap.size w w' := by
  have l1 : decide ((len : Int) < 1) = false := by simp; omega
  have l2 : decide ((16 : Int) < len) = false := by simp; omega
  have k1 : decide (k < 0) = false := by simp; omega
  have k2 : decide ((len : Int) ≤ k) = true := by simp; omega
  have n1 : decide (n < 1) = false := by simp; omega
  have n2 : decide (16 < n) = true := by simp; omega
  have HRoot := Lib.hid fun X (hX : Below w.heap.size w X) => (Root_good ss len ao cap X hl h0 h16 hss (hR.out.below hX)).mono fun e w' (h : _ ∧ _) => And.intro h.1 (hX.trans (Below.mono h.2 hX.size) : Below w.heap.size w w')
  have HTop : Hid (∀ X, Below w.heap.size w X → Calls Try.prog 46 #[.slice ao len cap] X fun e w' => e = .returned (.int .u64 (topOf nodeN (leafL ss) : Nat)) ∧ ∃ q, w' = X.drewN q) := Lib.hid fun X (hX : Below w.heap.size w X) => by
    have h := ref_TopOf len ss len ao cap X hl h0 h16 (Nat.le_refl _) hc0 hc1 hss (hR.out.below hX)
    unfold topOf; rw [leafL_length, hl]; exact h
  have HProve := Lib.hid fun X (hX : Below w.heap.size w X) => (Prove_none ss len ao cap k X hl h0 h16 hss (hR.out.below hX) (by omega)).mono fun e w' (h : _ ∧ _) => And.intro h.1 (hX.trans (Below.mono h.2 hX.size) : Below w.heap.size w w')
  obtain ⟨T, hT⟩ : ∃ T, topOf nodeN (leafL ss) = T := ⟨_, rfl⟩
  rw [hT] at HRoot HTop
  clear hT
  have HCheck := Lib.hid fun X (hX : Below w.heap.size w X) => (Check_large A n k s bo lp cp X (by omega)).mono fun e w' (h : _ ∧ _) => And.intro h.1 (h.2 ▸ hX : Below w.heap.size w w')
  have HLeaf := Lib.hid fun X => tree_Leaf s X hs
  have HLeafO := Lib.hid fun X => ref_LeafOf s X hs
  have HNode := Lib.hid fun X => tree_Node A B X hA hB
  have HNodeO := Lib.hid fun X => ref_NodeOf A B X hA hB
  obtain ⟨F, hF⟩ : ∃ F, leafN s = F := ⟨_, rfl⟩
  rw [hF] at HLeaf HLeafO
  obtain ⟨D, hD⟩ : ∃ D, nodeN A B = D := ⟨_, rfl⟩
  rw [hD] at HNode HNodeO
  clear hF hD
  go_enter Try.func7, Try.ntmps7
  go_wp2_with fail
  refine (HRoot.out _ (Below.refl _ _)).mono ?_
  rintro e w1 ⟨rfl, hb1⟩
  have HB1 := Lib.hid hb1
  clear hb1
  go_wp2_with fail
  refine (HProve.out _ HB1.out).mono ?_
  rintro e w2 ⟨rfl, hb2⟩
  have HB2 := Lib.hid hb2
  clear hb2
  go_wp2_with fail
  refine (HCheck.out _ HB2.out).mono ?_
  rintro e w3 ⟨rfl, hb3⟩
  have HB3 := Lib.hid hb3
  clear hb3
  go_wp2_with fail
  refine (HLeaf.out _).mono ?_
  rintro e w' ⟨rfl, rfl⟩
  go_wp2_with fail
  refine (HLeafO.out _).mono ?_
  rintro e w' ⟨rfl, rfl⟩
  go_wp2_with fail
  refine (HNode.out _).mono ?_
  rintro e w' ⟨rfl, rfl⟩
  go_wp2_with fail
  refine (HNodeO.out _).mono ?_
  rintro e w' ⟨rfl, rfl⟩
  go_wp2_with fail
  refine (HTop.out _ HB3.out).mono ?_
  rintro e w' ⟨rfl, q4, rfl⟩
  have HB4 := Lib.hid (below_drewN HB3.out q4)
  go_wp2_with fail
  go_ret
  exact ⟨rfl, HB4.out⟩
set_option maxRecDepth 100000 in
set_option maxHeartbeats 4000000 in
theorem tree_GB_NB (ss : List ByteArray) (len : Nat) (ao : Option Addr) (cap : Nat) (k : Int) (A B : Nat) (n : Int) (s : ByteArray) (P : List Nat) (lp : Nat) (bo : Option Addr) (cp : Nat) (w : World) (hA : A < 18446744073709551616) (hB : B < 18446744073709551616) (hs : s.size ≤ 9223372036854775807) (hP : P.length = lp) (hc2 : lp ≤ cp) (hc3 : cp ≤ 9223372036854775807) (hbp : Hid (∀ x ∈ P, x < 18446744073709551616)) (hRP : Hid (Reads w bo (uL P))) (hl : ss.length = len) (h0 : 1 ≤ len) (h16 : len ≤ 16) (hc0 : len ≤ cap) (hc1 : cap ≤ 9223372036854775807) (hss : Hid (∀ s ∈ ss, s.size ≤ 9223372036854775807)) (hR : Hid (Reads w ao (ss.map Value.string))) (hk : (len : Int) ≤ k) (hn : 1 ≤ n ∧ n ≤ 16 ∧ n ≤ k ∧ 0 ≤ k) :
    Calls Try.prog 7 #[.slice ao len cap, .int .i64 k, .int .u64 A, .int .u64 B, .int .i64 n, .string s, .slice bo lp cp] w fun e w' => e = .returned (.bool true) ∧ Below w.heap.size w w' := by
  have l1 : decide ((len : Int) < 1) = false := by simp; omega
  have l2 : decide ((16 : Int) < len) = false := by simp; omega
  have k1 : decide (k < 0) = false := by simp; omega
  have k2 : decide ((len : Int) ≤ k) = true := by simp; omega
  have n1 : decide (n < 1) = false := by simp; omega
  have n2 : decide (16 < n) = false := by simp; omega
  have n3 : decide (n ≤ k) = true := by simp; omega
  have HRoot := Lib.hid fun X (hX : Below w.heap.size w X) => (Root_good ss len ao cap X hl h0 h16 hss (hR.out.below hX)).mono fun e w' (h : _ ∧ _) => And.intro h.1 (hX.trans (Below.mono h.2 hX.size) : Below w.heap.size w w')
  have HTop : Hid (∀ X, Below w.heap.size w X → Calls Try.prog 46 #[.slice ao len cap] X fun e w' => e = .returned (.int .u64 (topOf nodeN (leafL ss) : Nat)) ∧ ∃ q, w' = X.drewN q) := Lib.hid fun X (hX : Below w.heap.size w X) => by
    have h := ref_TopOf len ss len ao cap X hl h0 h16 (Nat.le_refl _) hc0 hc1 hss (hR.out.below hX)
    unfold topOf; rw [leafL_length, hl]; exact h
  have HProve := Lib.hid fun X (hX : Below w.heap.size w X) => (Prove_none ss len ao cap k X hl h0 h16 hss (hR.out.below hX) (by omega)).mono fun e w' (h : _ ∧ _) => And.intro h.1 (hX.trans (Below.mono h.2 hX.size) : Below w.heap.size w w')
  obtain ⟨T, hT⟩ : ∃ T, topOf nodeN (leafL ss) = T := ⟨_, rfl⟩
  rw [hT] at HRoot HTop
  clear hT
  have HCheck := Lib.hid fun X (hX : Below w.heap.size w X) => (Check_none A n k s bo lp cp X (by omega) (by omega) (by omega)).mono fun e w' (h : _ ∧ _) => And.intro h.1 (h.2 ▸ hX : Below w.heap.size w w')
  have HLeaf := Lib.hid fun X => tree_Leaf s X hs
  have HLeafO := Lib.hid fun X => ref_LeafOf s X hs
  have HNode := Lib.hid fun X => tree_Node A B X hA hB
  have HNodeO := Lib.hid fun X => ref_NodeOf A B X hA hB
  obtain ⟨F, hF⟩ : ∃ F, leafN s = F := ⟨_, rfl⟩
  rw [hF] at HLeaf HLeafO
  obtain ⟨D, hD⟩ : ∃ D, nodeN A B = D := ⟨_, rfl⟩
  rw [hD] at HNode HNodeO
  clear hF hD
  go_enter Try.func7, Try.ntmps7
  go_wp2_with fail
  refine (HRoot.out _ (Below.refl _ _)).mono ?_
  rintro e w1 ⟨rfl, hb1⟩
  have HB1 := Lib.hid hb1
  clear hb1
  go_wp2_with fail
  refine (HProve.out _ HB1.out).mono ?_
  rintro e w2 ⟨rfl, hb2⟩
  have HB2 := Lib.hid hb2
  clear hb2
  go_wp2_with fail
  refine (HCheck.out _ HB2.out).mono ?_
  rintro e w3 ⟨rfl, hb3⟩
  have HB3 := Lib.hid hb3
  clear hb3
  go_wp2_with fail
  refine (HLeaf.out _).mono ?_
  rintro e w' ⟨rfl, rfl⟩
  go_wp2_with fail
  refine (HLeafO.out _).mono ?_
  rintro e w' ⟨rfl, rfl⟩
  go_wp2_with fail
  refine (HNode.out _).mono ?_
  rintro e w' ⟨rfl, rfl⟩
  go_wp2_with fail
  refine (HNodeO.out _).mono ?_
  rintro e w' ⟨rfl, rfl⟩
  go_wp2_with fail
  refine (HTop.out _ HB3.out).mono ?_
  rintro e w' ⟨rfl, q4, rfl⟩
  have HB4 := Lib.hid (below_drewN HB3.out q4)
  go_wp2_with fail
  go_ret
  exact ⟨rfl, HB4.out⟩
set_option maxRecDepth 100000 in
set_option maxHeartbeats 4000000 in
theorem tree_GB_NO (ss : List ByteArray) (len : Nat) (ao : Option Addr) (cap : Nat) (k : Int) (A B : Nat) (n : Int) (s : ByteArray) (P : List Nat) (lp : Nat) (bo : Option Addr) (cp : Nat) (w : World) (hA : A < 18446744073709551616) (hB : B < 18446744073709551616) (hs : s.size ≤ 9223372036854775807) (hP : P.length = lp) (hc2 : lp ≤ cp) (hc3 : cp ≤ 9223372036854775807) (hbp : Hid (∀ x ∈ P, x < 18446744073709551616)) (hRP : Hid (Reads w bo (uL P))) (hl : ss.length = len) (h0 : 1 ≤ len) (h16 : len ≤ 16) (hc0 : len ≤ cap) (hc1 : cap ≤ 9223372036854775807) (hss : Hid (∀ s ∈ ss, s.size ≤ 9223372036854775807)) (hR : Hid (Reads w ao (ss.map Value.string))) (hk : (len : Int) ≤ k) (hn : 1 ≤ n ∧ n ≤ 16 ∧ 0 ≤ k ∧ k < n) :
    Calls Try.prog 7 #[.slice ao len cap, .int .i64 k, .int .u64 A, .int .u64 B, .int .i64 n, .string s, .slice bo lp cp] w fun e w' => e = .returned (.bool true) ∧ Below w.heap.size w w' := by
  have l1 : decide ((len : Int) < 1) = false := by simp; omega
  have l2 : decide ((16 : Int) < len) = false := by simp; omega
  have k1 : decide (k < 0) = false := by simp; omega
  have k2 : decide ((len : Int) ≤ k) = true := by simp; omega
  have n1 : decide (n < 1) = false := by simp; omega
  have n2 : decide (16 < n) = false := by simp; omega
  have n3 : decide (n ≤ k) = false := by simp; omega
  have HRoot := Lib.hid fun X (hX : Below w.heap.size w X) => (Root_good ss len ao cap X hl h0 h16 hss (hR.out.below hX)).mono fun e w' (h : _ ∧ _) => And.intro h.1 (hX.trans (Below.mono h.2 hX.size) : Below w.heap.size w w')
  have HTop : Hid (∀ X, Below w.heap.size w X → Calls Try.prog 46 #[.slice ao len cap] X fun e w' => e = .returned (.int .u64 (topOf nodeN (leafL ss) : Nat)) ∧ ∃ q, w' = X.drewN q) := Lib.hid fun X (hX : Below w.heap.size w X) => by
    have h := ref_TopOf len ss len ao cap X hl h0 h16 (Nat.le_refl _) hc0 hc1 hss (hR.out.below hX)
    unfold topOf; rw [leafL_length, hl]; exact h
  have HProve := Lib.hid fun X (hX : Below w.heap.size w X) => (Prove_none ss len ao cap k X hl h0 h16 hss (hR.out.below hX) (by omega)).mono fun e w' (h : _ ∧ _) => And.intro h.1 (hX.trans (Below.mono h.2 hX.size) : Below w.heap.size w w')
  obtain ⟨T, hT⟩ : ∃ T, topOf nodeN (leafL ss) = T := ⟨_, rfl⟩
  rw [hT] at HRoot HTop
  clear hT
  obtain ⟨K, rfl⟩ : ∃ K : Nat, k = K := ⟨k.toNat, by omega⟩
  obtain ⟨N, rfl⟩ : ∃ N : Nat, n = N := ⟨n.toNat, by omega⟩
  have HCheck := Lib.hid fun X (hX : Below w.heap.size w X) => (Check_good A N K s P bo lp cp X hA (by omega) (by omega) (by omega) hs hP hc2 hc3 hbp (hRP.out.below hX)).mono fun e w' (h : _ ∧ _) => And.intro h.1 (h.2 ▸ hX : Below w.heap.size w w')
  have HComes : Hid (∀ X, Below w.heap.size w X → Calls Try.prog 49 #[.int .i64 N, .int .i64 K, .int .u64 (leafN s : Nat), .slice bo lp cp] X fun e w' => e = .returned (.tuple #[.int .u64 ((comes nodeN N K (leafN s) P).1 : Nat), .bool (comes nodeN N K (leafN s) P).2]) ∧ Below w.heap.size w w') := Lib.hid fun X (hX : Below w.heap.size w X) => (ref_ComesTo N N K (leafN s) P bo lp cp X (by omega) (by omega) (Nat.le_refl _) (by omega) (leafN_lt s (by omega)) hP hc2 hc3 hbp (hRP.out.below hX)).mono fun e w' h => ⟨h.1.1, h.2 ▸ hX⟩
  obtain ⟨R, hR2⟩ : ∃ R, comes nodeN N K (leafN s) P = R := ⟨_, rfl⟩
  rw [chk_of (by omega) (by omega) hR2] at HCheck
  rw [hR2] at HComes
  clear hR2
  obtain ⟨y, ok⟩ := R
  dsimp only at HCheck HComes
  have HLeaf := Lib.hid fun X => tree_Leaf s X hs
  have HLeafO := Lib.hid fun X => ref_LeafOf s X hs
  have HNode := Lib.hid fun X => tree_Node A B X hA hB
  have HNodeO := Lib.hid fun X => ref_NodeOf A B X hA hB
  obtain ⟨F, hF⟩ : ∃ F, leafN s = F := ⟨_, rfl⟩
  rw [hF] at HLeaf HLeafO HComes
  obtain ⟨D, hD⟩ : ∃ D, nodeN A B = D := ⟨_, rfl⟩
  rw [hD] at HNode HNodeO
  clear hF hD
  have hsp : ok = false ∨ (ok = true ∧ y = A) ∨ (ok = true ∧ y ≠ A) := by cases ok <;> by_cases hy : y = A <;> simp [hy]
  rcases hsp with rfl | ⟨rfl, rfl⟩ | ⟨rfl, hyA⟩
  · rw [Bool.false_and] at HCheck
    go_enter Try.func7, Try.ntmps7
    go_wp2_with fail
    refine (HRoot.out _ (Below.refl _ _)).mono ?_
    rintro e w1 ⟨rfl, hb1⟩
    have HB1 := Lib.hid hb1
    clear hb1
    go_wp2_with fail
    refine (HProve.out _ HB1.out).mono ?_
    rintro e w2 ⟨rfl, hb2⟩
    have HB2 := Lib.hid hb2
    clear hb2
    go_wp2_with fail
    refine (HCheck.out _ HB2.out).mono ?_
    rintro e w3 ⟨rfl, hb3⟩
    have HB3 := Lib.hid hb3
    clear hb3
    go_wp2_with fail
    refine (HLeaf.out _).mono ?_
    rintro e w' ⟨rfl, rfl⟩
    go_wp2_with fail
    refine (HLeafO.out _).mono ?_
    rintro e w' ⟨rfl, rfl⟩
    go_wp2_with fail
    refine (HNode.out _).mono ?_
    rintro e w' ⟨rfl, rfl⟩
    go_wp2_with fail
    refine (HNodeO.out _).mono ?_
    rintro e w' ⟨rfl, rfl⟩
    go_wp2_with fail
    refine (HTop.out _ HB3.out).mono ?_
    rintro e w' ⟨rfl, q4, rfl⟩
    have HB4 := Lib.hid (below_drewN HB3.out q4)
    go_wp2_with fail
    refine (HLeafO.out _).mono ?_
    rintro e w' ⟨rfl, rfl⟩
    go_wp2_with fail
    refine (HComes.out _ HB4.out).mono ?_
    rintro e w7 ⟨rfl, hb7⟩
    have HB7 := Lib.hid hb7
    clear hb7
    go_wp2_with fail
    go_ret
    exact ⟨rfl, HB7.out⟩
  · rw [Bool.true_and, beq_self_eq_true] at HCheck
    go_enter Try.func7, Try.ntmps7
    go_wp2_with fail
    refine (HRoot.out _ (Below.refl _ _)).mono ?_
    rintro e w1 ⟨rfl, hb1⟩
    have HB1 := Lib.hid hb1
    clear hb1
    go_wp2_with fail
    refine (HProve.out _ HB1.out).mono ?_
    rintro e w2 ⟨rfl, hb2⟩
    have HB2 := Lib.hid hb2
    clear hb2
    go_wp2_with fail
    refine (HCheck.out _ HB2.out).mono ?_
    rintro e w3 ⟨rfl, hb3⟩
    have HB3 := Lib.hid hb3
    clear hb3
    go_wp2_with fail
    refine (HLeaf.out _).mono ?_
    rintro e w' ⟨rfl, rfl⟩
    go_wp2_with fail
    refine (HLeafO.out _).mono ?_
    rintro e w' ⟨rfl, rfl⟩
    go_wp2_with fail
    refine (HNode.out _).mono ?_
    rintro e w' ⟨rfl, rfl⟩
    go_wp2_with fail
    refine (HNodeO.out _).mono ?_
    rintro e w' ⟨rfl, rfl⟩
    go_wp2_with fail
    refine (HTop.out _ HB3.out).mono ?_
    rintro e w' ⟨rfl, q4, rfl⟩
    have HB4 := Lib.hid (below_drewN HB3.out q4)
    go_wp2_with fail
    refine (HLeafO.out _).mono ?_
    rintro e w' ⟨rfl, rfl⟩
    go_wp2_with fail
    refine (HComes.out _ HB4.out).mono ?_
    rintro e w7 ⟨rfl, hb7⟩
    have HB7 := Lib.hid hb7
    clear hb7
    go_wp2_with fail
    go_ret
    exact ⟨rfl, HB7.out⟩
  · have e0 : (y == A) = false := by simp [hyA]
    rw [Bool.true_and, e0] at HCheck
    have e1 : ((y : Int) == (A : Int)) = false := by simp; omega
    go_enter Try.func7, Try.ntmps7
    go_wp2_with fail
    refine (HRoot.out _ (Below.refl _ _)).mono ?_
    rintro e w1 ⟨rfl, hb1⟩
    have HB1 := Lib.hid hb1
    clear hb1
    go_wp2_with fail
    refine (HProve.out _ HB1.out).mono ?_
    rintro e w2 ⟨rfl, hb2⟩
    have HB2 := Lib.hid hb2
    clear hb2
    go_wp2_with fail
    refine (HCheck.out _ HB2.out).mono ?_
    rintro e w3 ⟨rfl, hb3⟩
    have HB3 := Lib.hid hb3
    clear hb3
    go_wp2_with fail
    refine (HLeaf.out _).mono ?_
    rintro e w' ⟨rfl, rfl⟩
    go_wp2_with fail
    refine (HLeafO.out _).mono ?_
    rintro e w' ⟨rfl, rfl⟩
    go_wp2_with fail
    refine (HNode.out _).mono ?_
    rintro e w' ⟨rfl, rfl⟩
    go_wp2_with fail
    refine (HNodeO.out _).mono ?_
    rintro e w' ⟨rfl, rfl⟩
    go_wp2_with fail
    refine (HTop.out _ HB3.out).mono ?_
    rintro e w' ⟨rfl, q4, rfl⟩
    have HB4 := Lib.hid (below_drewN HB3.out q4)
    go_wp2_with fail
    refine (HLeafO.out _).mono ?_
    rintro e w' ⟨rfl, rfl⟩
    go_wp2_with fail
    refine (HComes.out _ HB4.out).mono ?_
    rintro e w7 ⟨rfl, hb7⟩
    have HB7 := Lib.hid hb7
    clear hb7
    go_wp2_with fail
    go_ret
    exact ⟨rfl, HB7.out⟩
set_option maxRecDepth 100000 in
set_option maxHeartbeats 4000000 in
theorem tree_GO_N0 (ss : List ByteArray) (len : Nat) (ao : Option Addr) (cap : Nat) (k : Int) (A B : Nat) (n : Int) (s : ByteArray) (P : List Nat) (lp : Nat) (bo : Option Addr) (cp : Nat) (w : World) (hA : A < 18446744073709551616) (hB : B < 18446744073709551616) (hs : s.size ≤ 9223372036854775807) (hP : P.length = lp) (hc2 : lp ≤ cp) (hc3 : cp ≤ 9223372036854775807) (hbp : Hid (∀ x ∈ P, x < 18446744073709551616)) (hRP : Hid (Reads w bo (uL P))) (hl : ss.length = len) (h0 : 1 ≤ len) (h16 : len ≤ 16) (hc0 : len ≤ cap) (hc1 : cap ≤ 9223372036854775807) (hss : Hid (∀ s ∈ ss, s.size ≤ 9223372036854775807)) (hR : Hid (Reads w ao (ss.map Value.string))) (K : Nat) (hK : k = K) (hk : K < len) (hn : n < 1) :
    Calls Try.prog 7 #[.slice ao len cap, .int .i64 k, .int .u64 A, .int .u64 B, .int .i64 n, .string s, .slice bo lp cp] w fun e w' => e = .returned (.bool true) ∧ Below w.heap.size w w' := by
  subst hK
  have l1 : decide ((len : Int) < 1) = false := by simp; omega
  have l2 : decide ((16 : Int) < len) = false := by simp; omega
  have n1 : decide (n < 1) = true := by simp; omega
  have k1 : decide ((K : Int) < 0) = false := by simp
  have k2 : decide ((len : Int) ≤ K) = false := by simp; omega
  have k3 : decide (len ≤ K) = false := by simp; omega
  have HRoot := Lib.hid fun X (hX : Below w.heap.size w X) => (Root_good ss len ao cap X hl h0 h16 hss (hR.out.below hX)).mono fun e w' (h : _ ∧ _) => And.intro h.1 (hX.trans (Below.mono h.2 hX.size) : Below w.heap.size w w')
  have HTop : Hid (∀ X, Below w.heap.size w X → Calls Try.prog 46 #[.slice ao len cap] X fun e w' => e = .returned (.int .u64 (topOf nodeN (leafL ss) : Nat)) ∧ ∃ q, w' = X.drewN q) := Lib.hid fun X (hX : Below w.heap.size w X) => by
    have h := ref_TopOf len ss len ao cap X hl h0 h16 (Nat.le_refl _) hc0 hc1 hss (hR.out.below hX)
    unfold topOf; rw [leafL_length, hl]; exact h
  have HProve := Lib.hid fun X (hX : Below w.heap.size w X) => Prove_good ss len ao cap K X hl h0 h16 hss (hR.out.below hX) hk
  have HWay : Hid (∀ X, Below w.heap.size w X → Calls Try.prog 48 #[.slice ao len cap, .int .i64 K] X (RowU (wayOf nodeN (leafL ss) K) X)) := Lib.hid fun X (hX : Below w.heap.size w X) => by
    have h := ref_WayOf len ss len ao cap K X h16 hl h0 (Nat.le_refl _) hc0 hc1 hk hss (hR.out.below hX)
    unfold wayOf; rw [leafL_length, hl]; exact h
  have hwl : (wayOf nodeN (leafL ss) K).length ≤ 16 := by have h := wayF_len (node := nodeN) len (leafL ss) K; unfold wayOf; rw [leafL_length, hl]; omega
  obtain ⟨Q, hQ⟩ : ∃ Q, wayOf nodeN (leafL ss) K = Q := ⟨_, rfl⟩
  rw [hQ] at HProve HWay hwl
  clear hQ
  obtain ⟨lq, hlq⟩ : ∃ lq, Q.length = lq := ⟨_, rfl⟩
  have HLQ := Lib.hid hlq
  rw [hlq] at hwl
  clear hlq
  obtain ⟨T, hT⟩ : ∃ T, topOf nodeN (leafL ss) = T := ⟨_, rfl⟩
  rw [hT] at HRoot HTop
  clear hT
  have HCheck := Lib.hid fun X (hX : Below w.heap.size w X) => (Check_large A n (K : Int) s bo lp cp X (by omega))
  have HLeaf := Lib.hid fun X => tree_Leaf s X hs
  have HLeafO := Lib.hid fun X => ref_LeafOf s X hs
  have HNode := Lib.hid fun X => tree_Node A B X hA hB
  have HNodeO := Lib.hid fun X => ref_NodeOf A B X hA hB
  obtain ⟨F, hF⟩ : ∃ F, leafN s = F := ⟨_, rfl⟩
  rw [hF] at HLeaf HLeafO
  obtain ⟨D, hD⟩ : ∃ D, nodeN A B = D := ⟨_, rfl⟩
  rw [hD] at HNode HNodeO
  clear hF hD
  go_enter Try.func7, Try.ntmps7
  go_wp2_with fail
  refine (HRoot.out _ (Below.refl _ _)).mono ?_
  rintro e w1 ⟨rfl, hb1⟩
  have HB1 := Lib.hid hb1
  clear hb1
  go_wp2_with fail
  refine (HProve.out _ HB1.out).mono ?_
  rintro e w2 ⟨v2, rfl, hown2, hb2⟩
  have HB2 := Lib.hid (HB1.out.trans (Below.mono hb2 HB1.out.size))
  obtain ⟨ao2, cp2, rfl, hR2, _, _⟩ := own_reads hown2
  rw [HLQ.out]
  have HR2 := Lib.hid hR2
  clear hb2 hown2 hR2
  go_wp2_with fail
  refine (HCheck.out _ HB2.out).mono ?_
  rintro e w3 ⟨rfl, rfl⟩
  have HB3 := HB2
  go_wp2_with fail
  refine (HLeaf.out _).mono ?_
  rintro e w' ⟨rfl, rfl⟩
  go_wp2_with fail
  refine (HLeafO.out _).mono ?_
  rintro e w' ⟨rfl, rfl⟩
  go_wp2_with fail
  refine (HNode.out _).mono ?_
  rintro e w' ⟨rfl, rfl⟩
  go_wp2_with fail
  refine (HNodeO.out _).mono ?_
  rintro e w' ⟨rfl, rfl⟩
  go_wp2_with fail
  refine (HTop.out _ HB3.out).mono ?_
  rintro e w' ⟨rfl, q4, rfl⟩
  have HB4 := Lib.hid (below_drewN HB3.out q4)
  go_wp2_with fail
  refine (HWay.out _ HB4.out).mono ?_
  rintro e w5 ⟨v5, rfl, hown5, hb5⟩
  obtain ⟨ao5, cp5, rfl, hR5, _, _⟩ := own_reads hown5
  rw [HLQ.out]
  have HR5 := Lib.hid hR5
  have HB5 := Lib.hid (HB4.out.trans (Below.mono hb5 HB4.out.size))
  have HR25 := Lib.hid ((HR2.out.drew q4).below hb5)
  clear hb5 hown5 hR5
  go_wp2_with fail
  refine (same_u64 Q lq ao2 ao5 cp2 cp5 w5 HLQ.out (by omega) HR25.out HR5.out).mono ?_
  rintro e w' ⟨rfl, q6, rfl⟩
  have HB6 := Lib.hid (below_drewN HB5.out q6)
  go_wp2_with fail
  go_ret
  exact ⟨rfl, HB6.out⟩
set_option maxRecDepth 100000 in
set_option maxHeartbeats 4000000 in
theorem tree_GO_N1 (ss : List ByteArray) (len : Nat) (ao : Option Addr) (cap : Nat) (k : Int) (A B : Nat) (n : Int) (s : ByteArray) (P : List Nat) (lp : Nat) (bo : Option Addr) (cp : Nat) (w : World) (hA : A < 18446744073709551616) (hB : B < 18446744073709551616) (hs : s.size ≤ 9223372036854775807) (hP : P.length = lp) (hc2 : lp ≤ cp) (hc3 : cp ≤ 9223372036854775807) (hbp : Hid (∀ x ∈ P, x < 18446744073709551616)) (hRP : Hid (Reads w bo (uL P))) (hl : ss.length = len) (h0 : 1 ≤ len) (h16 : len ≤ 16) (hc0 : len ≤ cap) (hc1 : cap ≤ 9223372036854775807) (hss : Hid (∀ s ∈ ss, s.size ≤ 9223372036854775807)) (hR : Hid (Reads w ao (ss.map Value.string))) (K : Nat) (hK : k = K) (hk : K < len) (hn : 16 < n) :
    Calls Try.prog 7 #[.slice ao len cap, .int .i64 k, .int .u64 A, .int .u64 B, .int .i64 n, .string s, .slice bo lp cp] w fun e w' => e = .returned (.bool true) ∧ Below w.heap.size w w' := by
  subst hK
  have l1 : decide ((len : Int) < 1) = false := by simp; omega
  have l2 : decide ((16 : Int) < len) = false := by simp; omega
  have n1 : decide (n < 1) = false := by simp; omega
  have n2 : decide (16 < n) = true := by simp; omega
  have k1 : decide ((K : Int) < 0) = false := by simp
  have k2 : decide ((len : Int) ≤ K) = false := by simp; omega
  have k3 : decide (len ≤ K) = false := by simp; omega
  have HRoot := Lib.hid fun X (hX : Below w.heap.size w X) => (Root_good ss len ao cap X hl h0 h16 hss (hR.out.below hX)).mono fun e w' (h : _ ∧ _) => And.intro h.1 (hX.trans (Below.mono h.2 hX.size) : Below w.heap.size w w')
  have HTop : Hid (∀ X, Below w.heap.size w X → Calls Try.prog 46 #[.slice ao len cap] X fun e w' => e = .returned (.int .u64 (topOf nodeN (leafL ss) : Nat)) ∧ ∃ q, w' = X.drewN q) := Lib.hid fun X (hX : Below w.heap.size w X) => by
    have h := ref_TopOf len ss len ao cap X hl h0 h16 (Nat.le_refl _) hc0 hc1 hss (hR.out.below hX)
    unfold topOf; rw [leafL_length, hl]; exact h
  have HProve := Lib.hid fun X (hX : Below w.heap.size w X) => Prove_good ss len ao cap K X hl h0 h16 hss (hR.out.below hX) hk
  have HWay : Hid (∀ X, Below w.heap.size w X → Calls Try.prog 48 #[.slice ao len cap, .int .i64 K] X (RowU (wayOf nodeN (leafL ss) K) X)) := Lib.hid fun X (hX : Below w.heap.size w X) => by
    have h := ref_WayOf len ss len ao cap K X h16 hl h0 (Nat.le_refl _) hc0 hc1 hk hss (hR.out.below hX)
    unfold wayOf; rw [leafL_length, hl]; exact h
  have hwl : (wayOf nodeN (leafL ss) K).length ≤ 16 := by have h := wayF_len (node := nodeN) len (leafL ss) K; unfold wayOf; rw [leafL_length, hl]; omega
  obtain ⟨Q, hQ⟩ : ∃ Q, wayOf nodeN (leafL ss) K = Q := ⟨_, rfl⟩
  rw [hQ] at HProve HWay hwl
  clear hQ
  obtain ⟨lq, hlq⟩ : ∃ lq, Q.length = lq := ⟨_, rfl⟩
  have HLQ := Lib.hid hlq
  rw [hlq] at hwl
  clear hlq
  obtain ⟨T, hT⟩ : ∃ T, topOf nodeN (leafL ss) = T := ⟨_, rfl⟩
  rw [hT] at HRoot HTop
  clear hT
  have HCheck := Lib.hid fun X (hX : Below w.heap.size w X) => (Check_large A n (K : Int) s bo lp cp X (by omega))
  have HLeaf := Lib.hid fun X => tree_Leaf s X hs
  have HLeafO := Lib.hid fun X => ref_LeafOf s X hs
  have HNode := Lib.hid fun X => tree_Node A B X hA hB
  have HNodeO := Lib.hid fun X => ref_NodeOf A B X hA hB
  obtain ⟨F, hF⟩ : ∃ F, leafN s = F := ⟨_, rfl⟩
  rw [hF] at HLeaf HLeafO
  obtain ⟨D, hD⟩ : ∃ D, nodeN A B = D := ⟨_, rfl⟩
  rw [hD] at HNode HNodeO
  clear hF hD
  go_enter Try.func7, Try.ntmps7
  go_wp2_with fail
  refine (HRoot.out _ (Below.refl _ _)).mono ?_
  rintro e w1 ⟨rfl, hb1⟩
  have HB1 := Lib.hid hb1
  clear hb1
  go_wp2_with fail
  refine (HProve.out _ HB1.out).mono ?_
  rintro e w2 ⟨v2, rfl, hown2, hb2⟩
  have HB2 := Lib.hid (HB1.out.trans (Below.mono hb2 HB1.out.size))
  obtain ⟨ao2, cp2, rfl, hR2, _, _⟩ := own_reads hown2
  rw [HLQ.out]
  have HR2 := Lib.hid hR2
  clear hb2 hown2 hR2
  go_wp2_with fail
  refine (HCheck.out _ HB2.out).mono ?_
  rintro e w3 ⟨rfl, rfl⟩
  have HB3 := HB2
  go_wp2_with fail
  refine (HLeaf.out _).mono ?_
  rintro e w' ⟨rfl, rfl⟩
  go_wp2_with fail
  refine (HLeafO.out _).mono ?_
  rintro e w' ⟨rfl, rfl⟩
  go_wp2_with fail
  refine (HNode.out _).mono ?_
  rintro e w' ⟨rfl, rfl⟩
  go_wp2_with fail
  refine (HNodeO.out _).mono ?_
  rintro e w' ⟨rfl, rfl⟩
  go_wp2_with fail
  refine (HTop.out _ HB3.out).mono ?_
  rintro e w' ⟨rfl, q4, rfl⟩
  have HB4 := Lib.hid (below_drewN HB3.out q4)
  go_wp2_with fail
  refine (HWay.out _ HB4.out).mono ?_
  rintro e w5 ⟨v5, rfl, hown5, hb5⟩
  obtain ⟨ao5, cp5, rfl, hR5, _, _⟩ := own_reads hown5
  rw [HLQ.out]
  have HR5 := Lib.hid hR5
  have HB5 := Lib.hid (HB4.out.trans (Below.mono hb5 HB4.out.size))
  have HR25 := Lib.hid ((HR2.out.drew q4).below hb5)
  clear hb5 hown5 hR5
  go_wp2_with fail
  refine (same_u64 Q lq ao2 ao5 cp2 cp5 w5 HLQ.out (by omega) HR25.out HR5.out).mono ?_
  rintro e w' ⟨rfl, q6, rfl⟩
  have HB6 := Lib.hid (below_drewN HB5.out q6)
  go_wp2_with fail
  go_ret
  exact ⟨rfl, HB6.out⟩
set_option maxRecDepth 100000 in
set_option maxHeartbeats 4000000 in
theorem tree_GO_NB (ss : List ByteArray) (len : Nat) (ao : Option Addr) (cap : Nat) (k : Int) (A B : Nat) (n : Int) (s : ByteArray) (P : List Nat) (lp : Nat) (bo : Option Addr) (cp : Nat) (w : World) (hA : A < 18446744073709551616) (hB : B < 18446744073709551616) (hs : s.size ≤ 9223372036854775807) (hP : P.length = lp) (hc2 : lp ≤ cp) (hc3 : cp ≤ 9223372036854775807) (hbp : Hid (∀ x ∈ P, x < 18446744073709551616)) (hRP : Hid (Reads w bo (uL P))) (hl : ss.length = len) (h0 : 1 ≤ len) (h16 : len ≤ 16) (hc0 : len ≤ cap) (hc1 : cap ≤ 9223372036854775807) (hss : Hid (∀ s ∈ ss, s.size ≤ 9223372036854775807)) (hR : Hid (Reads w ao (ss.map Value.string))) (K : Nat) (hK : k = K) (hk : K < len) (hn : 1 ≤ n ∧ n ≤ 16 ∧ n ≤ k ∧ 0 ≤ k) :
    Calls Try.prog 7 #[.slice ao len cap, .int .i64 k, .int .u64 A, .int .u64 B, .int .i64 n, .string s, .slice bo lp cp] w fun e w' => e = .returned (.bool true) ∧ Below w.heap.size w w' := by
  subst hK
  have l1 : decide ((len : Int) < 1) = false := by simp; omega
  have l2 : decide ((16 : Int) < len) = false := by simp; omega
  have n1 : decide (n < 1) = false := by simp; omega
  have n2 : decide (16 < n) = false := by simp; omega
  have k1 : decide ((K : Int) < 0) = false := by simp
  have k2 : decide ((len : Int) ≤ K) = false := by simp; omega
  have k3 : decide (len ≤ K) = false := by simp; omega
  have n3 : decide (n ≤ (K : Int)) = true := by simp; omega
  have HRoot := Lib.hid fun X (hX : Below w.heap.size w X) => (Root_good ss len ao cap X hl h0 h16 hss (hR.out.below hX)).mono fun e w' (h : _ ∧ _) => And.intro h.1 (hX.trans (Below.mono h.2 hX.size) : Below w.heap.size w w')
  have HTop : Hid (∀ X, Below w.heap.size w X → Calls Try.prog 46 #[.slice ao len cap] X fun e w' => e = .returned (.int .u64 (topOf nodeN (leafL ss) : Nat)) ∧ ∃ q, w' = X.drewN q) := Lib.hid fun X (hX : Below w.heap.size w X) => by
    have h := ref_TopOf len ss len ao cap X hl h0 h16 (Nat.le_refl _) hc0 hc1 hss (hR.out.below hX)
    unfold topOf; rw [leafL_length, hl]; exact h
  have HProve := Lib.hid fun X (hX : Below w.heap.size w X) => Prove_good ss len ao cap K X hl h0 h16 hss (hR.out.below hX) hk
  have HWay : Hid (∀ X, Below w.heap.size w X → Calls Try.prog 48 #[.slice ao len cap, .int .i64 K] X (RowU (wayOf nodeN (leafL ss) K) X)) := Lib.hid fun X (hX : Below w.heap.size w X) => by
    have h := ref_WayOf len ss len ao cap K X h16 hl h0 (Nat.le_refl _) hc0 hc1 hk hss (hR.out.below hX)
    unfold wayOf; rw [leafL_length, hl]; exact h
  have hwl : (wayOf nodeN (leafL ss) K).length ≤ 16 := by have h := wayF_len (node := nodeN) len (leafL ss) K; unfold wayOf; rw [leafL_length, hl]; omega
  obtain ⟨Q, hQ⟩ : ∃ Q, wayOf nodeN (leafL ss) K = Q := ⟨_, rfl⟩
  rw [hQ] at HProve HWay hwl
  clear hQ
  obtain ⟨lq, hlq⟩ : ∃ lq, Q.length = lq := ⟨_, rfl⟩
  have HLQ := Lib.hid hlq
  rw [hlq] at hwl
  clear hlq
  obtain ⟨T, hT⟩ : ∃ T, topOf nodeN (leafL ss) = T := ⟨_, rfl⟩
  rw [hT] at HRoot HTop
  clear hT
  have HCheck := Lib.hid fun X (hX : Below w.heap.size w X) => (Check_none A n (K : Int) s bo lp cp X (by omega) (by omega) (by omega))
  have HLeaf := Lib.hid fun X => tree_Leaf s X hs
  have HLeafO := Lib.hid fun X => ref_LeafOf s X hs
  have HNode := Lib.hid fun X => tree_Node A B X hA hB
  have HNodeO := Lib.hid fun X => ref_NodeOf A B X hA hB
  obtain ⟨F, hF⟩ : ∃ F, leafN s = F := ⟨_, rfl⟩
  rw [hF] at HLeaf HLeafO
  obtain ⟨D, hD⟩ : ∃ D, nodeN A B = D := ⟨_, rfl⟩
  rw [hD] at HNode HNodeO
  clear hF hD
  go_enter Try.func7, Try.ntmps7
  go_wp2_with fail
  refine (HRoot.out _ (Below.refl _ _)).mono ?_
  rintro e w1 ⟨rfl, hb1⟩
  have HB1 := Lib.hid hb1
  clear hb1
  go_wp2_with fail
  refine (HProve.out _ HB1.out).mono ?_
  rintro e w2 ⟨v2, rfl, hown2, hb2⟩
  have HB2 := Lib.hid (HB1.out.trans (Below.mono hb2 HB1.out.size))
  obtain ⟨ao2, cp2, rfl, hR2, _, _⟩ := own_reads hown2
  rw [HLQ.out]
  have HR2 := Lib.hid hR2
  clear hb2 hown2 hR2
  go_wp2_with fail
  refine (HCheck.out _ HB2.out).mono ?_
  rintro e w3 ⟨rfl, rfl⟩
  have HB3 := HB2
  go_wp2_with fail
  refine (HLeaf.out _).mono ?_
  rintro e w' ⟨rfl, rfl⟩
  go_wp2_with fail
  refine (HLeafO.out _).mono ?_
  rintro e w' ⟨rfl, rfl⟩
  go_wp2_with fail
  refine (HNode.out _).mono ?_
  rintro e w' ⟨rfl, rfl⟩
  go_wp2_with fail
  refine (HNodeO.out _).mono ?_
  rintro e w' ⟨rfl, rfl⟩
  go_wp2_with fail
  refine (HTop.out _ HB3.out).mono ?_
  rintro e w' ⟨rfl, q4, rfl⟩
  have HB4 := Lib.hid (below_drewN HB3.out q4)
  go_wp2_with fail
  refine (HWay.out _ HB4.out).mono ?_
  rintro e w5 ⟨v5, rfl, hown5, hb5⟩
  obtain ⟨ao5, cp5, rfl, hR5, _, _⟩ := own_reads hown5
  rw [HLQ.out]
  have HR5 := Lib.hid hR5
  have HB5 := Lib.hid (HB4.out.trans (Below.mono hb5 HB4.out.size))
  have HR25 := Lib.hid ((HR2.out.drew q4).below hb5)
  clear hb5 hown5 hR5
  go_wp2_with fail
  refine (same_u64 Q lq ao2 ao5 cp2 cp5 w5 HLQ.out (by omega) HR25.out HR5.out).mono ?_
  rintro e w' ⟨rfl, q6, rfl⟩
  have HB6 := Lib.hid (below_drewN HB5.out q6)
  go_wp2_with fail
  go_ret
  exact ⟨rfl, HB6.out⟩
set_option maxRecDepth 100000 in
set_option maxHeartbeats 4000000 in
theorem tree_GO_NO (ss : List ByteArray) (len : Nat) (ao : Option Addr) (cap : Nat) (k : Int) (A B : Nat) (n : Int) (s : ByteArray) (P : List Nat) (lp : Nat) (bo : Option Addr) (cp : Nat) (w : World) (hA : A < 18446744073709551616) (hB : B < 18446744073709551616) (hs : s.size ≤ 9223372036854775807) (hP : P.length = lp) (hc2 : lp ≤ cp) (hc3 : cp ≤ 9223372036854775807) (hbp : Hid (∀ x ∈ P, x < 18446744073709551616)) (hRP : Hid (Reads w bo (uL P))) (hl : ss.length = len) (h0 : 1 ≤ len) (h16 : len ≤ 16) (hc0 : len ≤ cap) (hc1 : cap ≤ 9223372036854775807) (hss : Hid (∀ s ∈ ss, s.size ≤ 9223372036854775807)) (hR : Hid (Reads w ao (ss.map Value.string))) (K : Nat) (hK : k = K) (hk : K < len) (hn : 1 ≤ n ∧ n ≤ 16 ∧ 0 ≤ k ∧ k < n) :
    Calls Try.prog 7 #[.slice ao len cap, .int .i64 k, .int .u64 A, .int .u64 B, .int .i64 n, .string s, .slice bo lp cp] w fun e w' => e = .returned (.bool true) ∧ Below w.heap.size w w' := by
  subst hK
  have l1 : decide ((len : Int) < 1) = false := by simp; omega
  have l2 : decide ((16 : Int) < len) = false := by simp; omega
  have n1 : decide (n < 1) = false := by simp; omega
  have n2 : decide (16 < n) = false := by simp; omega
  have k1 : decide ((K : Int) < 0) = false := by simp
  have k2 : decide ((len : Int) ≤ K) = false := by simp; omega
  have k3 : decide (len ≤ K) = false := by simp; omega
  have n3 : decide (n ≤ (K : Int)) = false := by simp; omega
  have HRoot := Lib.hid fun X (hX : Below w.heap.size w X) => (Root_good ss len ao cap X hl h0 h16 hss (hR.out.below hX)).mono fun e w' (h : _ ∧ _) => And.intro h.1 (hX.trans (Below.mono h.2 hX.size) : Below w.heap.size w w')
  have HTop : Hid (∀ X, Below w.heap.size w X → Calls Try.prog 46 #[.slice ao len cap] X fun e w' => e = .returned (.int .u64 (topOf nodeN (leafL ss) : Nat)) ∧ ∃ q, w' = X.drewN q) := Lib.hid fun X (hX : Below w.heap.size w X) => by
    have h := ref_TopOf len ss len ao cap X hl h0 h16 (Nat.le_refl _) hc0 hc1 hss (hR.out.below hX)
    unfold topOf; rw [leafL_length, hl]; exact h
  have HProve := Lib.hid fun X (hX : Below w.heap.size w X) => Prove_good ss len ao cap K X hl h0 h16 hss (hR.out.below hX) hk
  have HWay : Hid (∀ X, Below w.heap.size w X → Calls Try.prog 48 #[.slice ao len cap, .int .i64 K] X (RowU (wayOf nodeN (leafL ss) K) X)) := Lib.hid fun X (hX : Below w.heap.size w X) => by
    have h := ref_WayOf len ss len ao cap K X h16 hl h0 (Nat.le_refl _) hc0 hc1 hk hss (hR.out.below hX)
    unfold wayOf; rw [leafL_length, hl]; exact h
  have hwl : (wayOf nodeN (leafL ss) K).length ≤ 16 := by have h := wayF_len (node := nodeN) len (leafL ss) K; unfold wayOf; rw [leafL_length, hl]; omega
  obtain ⟨Q, hQ⟩ : ∃ Q, wayOf nodeN (leafL ss) K = Q := ⟨_, rfl⟩
  rw [hQ] at HProve HWay hwl
  clear hQ
  obtain ⟨lq, hlq⟩ : ∃ lq, Q.length = lq := ⟨_, rfl⟩
  have HLQ := Lib.hid hlq
  rw [hlq] at hwl
  clear hlq
  obtain ⟨T, hT⟩ : ∃ T, topOf nodeN (leafL ss) = T := ⟨_, rfl⟩
  rw [hT] at HRoot HTop
  clear hT
  obtain ⟨N, rfl⟩ : ∃ N : Nat, n = N := ⟨n.toNat, by omega⟩
  have HCheck := Lib.hid fun X (hX : Below w.heap.size w X) => (Check_good A N K s P bo lp cp X hA (by omega) (by omega) (by omega) hs hP hc2 hc3 hbp (hRP.out.below hX))
  have HComes : Hid (∀ X, Below w.heap.size w X → Calls Try.prog 49 #[.int .i64 N, .int .i64 K, .int .u64 (leafN s : Nat), .slice bo lp cp] X fun e w' => e = .returned (.tuple #[.int .u64 ((comes nodeN N K (leafN s) P).1 : Nat), .bool (comes nodeN N K (leafN s) P).2]) ∧ Below w.heap.size w w') := Lib.hid fun X (hX : Below w.heap.size w X) => (ref_ComesTo N N K (leafN s) P bo lp cp X (by omega) (by omega) (Nat.le_refl _) (by omega) (leafN_lt s (by omega)) hP hc2 hc3 hbp (hRP.out.below hX)).mono fun e w' h => ⟨h.1.1, h.2 ▸ hX⟩
  obtain ⟨R, hR2⟩ : ∃ R, comes nodeN N K (leafN s) P = R := ⟨_, rfl⟩
  rw [chk_of (by omega) (by omega) hR2] at HCheck
  rw [hR2] at HComes
  clear hR2
  obtain ⟨y, ok⟩ := R
  dsimp only at HCheck HComes
  have HLeaf := Lib.hid fun X => tree_Leaf s X hs
  have HLeafO := Lib.hid fun X => ref_LeafOf s X hs
  have HNode := Lib.hid fun X => tree_Node A B X hA hB
  have HNodeO := Lib.hid fun X => ref_NodeOf A B X hA hB
  obtain ⟨F, hF⟩ : ∃ F, leafN s = F := ⟨_, rfl⟩
  rw [hF] at HLeaf HLeafO HComes
  obtain ⟨D, hD⟩ : ∃ D, nodeN A B = D := ⟨_, rfl⟩
  rw [hD] at HNode HNodeO
  clear hF hD
  have hsp : ok = false ∨ (ok = true ∧ y = A) ∨ (ok = true ∧ y ≠ A) := by cases ok <;> by_cases hy : y = A <;> simp [hy]
  rcases hsp with rfl | ⟨rfl, rfl⟩ | ⟨rfl, hyA⟩
  · rw [Bool.false_and] at HCheck
    go_enter Try.func7, Try.ntmps7
    go_wp2_with fail
    refine (HRoot.out _ (Below.refl _ _)).mono ?_
    rintro e w1 ⟨rfl, hb1⟩
    have HB1 := Lib.hid hb1
    clear hb1
    go_wp2_with fail
    refine (HProve.out _ HB1.out).mono ?_
    rintro e w2 ⟨v2, rfl, hown2, hb2⟩
    have HB2 := Lib.hid (HB1.out.trans (Below.mono hb2 HB1.out.size))
    obtain ⟨ao2, cp2, rfl, hR2, _, _⟩ := own_reads hown2
    rw [HLQ.out]
    have HR2 := Lib.hid hR2
    clear hb2 hown2 hR2
    go_wp2_with fail
    refine (HCheck.out _ HB2.out).mono ?_
    rintro e w3 ⟨rfl, rfl⟩
    have HB3 := HB2
    go_wp2_with fail
    refine (HLeaf.out _).mono ?_
    rintro e w' ⟨rfl, rfl⟩
    go_wp2_with fail
    refine (HLeafO.out _).mono ?_
    rintro e w' ⟨rfl, rfl⟩
    go_wp2_with fail
    refine (HNode.out _).mono ?_
    rintro e w' ⟨rfl, rfl⟩
    go_wp2_with fail
    refine (HNodeO.out _).mono ?_
    rintro e w' ⟨rfl, rfl⟩
    go_wp2_with fail
    refine (HTop.out _ HB3.out).mono ?_
    rintro e w' ⟨rfl, q4, rfl⟩
    have HB4 := Lib.hid (below_drewN HB3.out q4)
    go_wp2_with fail
    refine (HWay.out _ HB4.out).mono ?_
    rintro e w5 ⟨v5, rfl, hown5, hb5⟩
    obtain ⟨ao5, cp5, rfl, hR5, _, _⟩ := own_reads hown5
    rw [HLQ.out]
    have HR5 := Lib.hid hR5
    have HB5 := Lib.hid (HB4.out.trans (Below.mono hb5 HB4.out.size))
    have HR25 := Lib.hid ((HR2.out.drew q4).below hb5)
    clear hb5 hown5 hR5
    go_wp2_with fail
    refine (same_u64 Q lq ao2 ao5 cp2 cp5 w5 HLQ.out (by omega) HR25.out HR5.out).mono ?_
    rintro e w' ⟨rfl, q6, rfl⟩
    have HB6 := Lib.hid (below_drewN HB5.out q6)
    go_wp2_with fail
    refine (HLeafO.out _).mono ?_
    rintro e w' ⟨rfl, rfl⟩
    go_wp2_with fail
    refine (HComes.out _ HB6.out).mono ?_
    rintro e w7 ⟨rfl, hb7⟩
    have HB7 := Lib.hid hb7
    clear hb7
    go_wp2_with fail
    go_ret
    exact ⟨rfl, HB7.out⟩
  · rw [Bool.true_and, beq_self_eq_true] at HCheck
    go_enter Try.func7, Try.ntmps7
    go_wp2_with fail
    refine (HRoot.out _ (Below.refl _ _)).mono ?_
    rintro e w1 ⟨rfl, hb1⟩
    have HB1 := Lib.hid hb1
    clear hb1
    go_wp2_with fail
    refine (HProve.out _ HB1.out).mono ?_
    rintro e w2 ⟨v2, rfl, hown2, hb2⟩
    have HB2 := Lib.hid (HB1.out.trans (Below.mono hb2 HB1.out.size))
    obtain ⟨ao2, cp2, rfl, hR2, _, _⟩ := own_reads hown2
    rw [HLQ.out]
    have HR2 := Lib.hid hR2
    clear hb2 hown2 hR2
    go_wp2_with fail
    refine (HCheck.out _ HB2.out).mono ?_
    rintro e w3 ⟨rfl, rfl⟩
    have HB3 := HB2
    go_wp2_with fail
    refine (HLeaf.out _).mono ?_
    rintro e w' ⟨rfl, rfl⟩
    go_wp2_with fail
    refine (HLeafO.out _).mono ?_
    rintro e w' ⟨rfl, rfl⟩
    go_wp2_with fail
    refine (HNode.out _).mono ?_
    rintro e w' ⟨rfl, rfl⟩
    go_wp2_with fail
    refine (HNodeO.out _).mono ?_
    rintro e w' ⟨rfl, rfl⟩
    go_wp2_with fail
    refine (HTop.out _ HB3.out).mono ?_
    rintro e w' ⟨rfl, q4, rfl⟩
    have HB4 := Lib.hid (below_drewN HB3.out q4)
    go_wp2_with fail
    refine (HWay.out _ HB4.out).mono ?_
    rintro e w5 ⟨v5, rfl, hown5, hb5⟩
    obtain ⟨ao5, cp5, rfl, hR5, _, _⟩ := own_reads hown5
    rw [HLQ.out]
    have HR5 := Lib.hid hR5
    have HB5 := Lib.hid (HB4.out.trans (Below.mono hb5 HB4.out.size))
    have HR25 := Lib.hid ((HR2.out.drew q4).below hb5)
    clear hb5 hown5 hR5
    go_wp2_with fail
    refine (same_u64 Q lq ao2 ao5 cp2 cp5 w5 HLQ.out (by omega) HR25.out HR5.out).mono ?_
    rintro e w' ⟨rfl, q6, rfl⟩
    have HB6 := Lib.hid (below_drewN HB5.out q6)
    go_wp2_with fail
    refine (HLeafO.out _).mono ?_
    rintro e w' ⟨rfl, rfl⟩
    go_wp2_with fail
    refine (HComes.out _ HB6.out).mono ?_
    rintro e w7 ⟨rfl, hb7⟩
    have HB7 := Lib.hid hb7
    clear hb7
    go_wp2_with fail
    go_ret
    exact ⟨rfl, HB7.out⟩
  · have e0 : (y == A) = false := by simp [hyA]
    rw [Bool.true_and, e0] at HCheck
    have e1 : ((y : Int) == (A : Int)) = false := by simp; omega
    go_enter Try.func7, Try.ntmps7
    go_wp2_with fail
    refine (HRoot.out _ (Below.refl _ _)).mono ?_
    rintro e w1 ⟨rfl, hb1⟩
    have HB1 := Lib.hid hb1
    clear hb1
    go_wp2_with fail
    refine (HProve.out _ HB1.out).mono ?_
    rintro e w2 ⟨v2, rfl, hown2, hb2⟩
    have HB2 := Lib.hid (HB1.out.trans (Below.mono hb2 HB1.out.size))
    obtain ⟨ao2, cp2, rfl, hR2, _, _⟩ := own_reads hown2
    rw [HLQ.out]
    have HR2 := Lib.hid hR2
    clear hb2 hown2 hR2
    go_wp2_with fail
    refine (HCheck.out _ HB2.out).mono ?_
    rintro e w3 ⟨rfl, rfl⟩
    have HB3 := HB2
    go_wp2_with fail
    refine (HLeaf.out _).mono ?_
    rintro e w' ⟨rfl, rfl⟩
    go_wp2_with fail
    refine (HLeafO.out _).mono ?_
    rintro e w' ⟨rfl, rfl⟩
    go_wp2_with fail
    refine (HNode.out _).mono ?_
    rintro e w' ⟨rfl, rfl⟩
    go_wp2_with fail
    refine (HNodeO.out _).mono ?_
    rintro e w' ⟨rfl, rfl⟩
    go_wp2_with fail
    refine (HTop.out _ HB3.out).mono ?_
    rintro e w' ⟨rfl, q4, rfl⟩
    have HB4 := Lib.hid (below_drewN HB3.out q4)
    go_wp2_with fail
    refine (HWay.out _ HB4.out).mono ?_
    rintro e w5 ⟨v5, rfl, hown5, hb5⟩
    obtain ⟨ao5, cp5, rfl, hR5, _, _⟩ := own_reads hown5
    rw [HLQ.out]
    have HR5 := Lib.hid hR5
    have HB5 := Lib.hid (HB4.out.trans (Below.mono hb5 HB4.out.size))
    have HR25 := Lib.hid ((HR2.out.drew q4).below hb5)
    clear hb5 hown5 hR5
    go_wp2_with fail
    refine (same_u64 Q lq ao2 ao5 cp2 cp5 w5 HLQ.out (by omega) HR25.out HR5.out).mono ?_
    rintro e w' ⟨rfl, q6, rfl⟩
    have HB6 := Lib.hid (below_drewN HB5.out q6)
    go_wp2_with fail
    refine (HLeafO.out _).mono ?_
    rintro e w' ⟨rfl, rfl⟩
    go_wp2_with fail
    refine (HComes.out _ HB6.out).mono ?_
    rintro e w7 ⟨rfl, hb7⟩
    have HB7 := Lib.hid hb7
    clear hb7
    go_wp2_with fail
    go_ret
    exact ⟨rfl, HB7.out⟩
end Go.Proofs.Ytkincmkmkfiglaa
