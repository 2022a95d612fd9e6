/- wholelaw.TreeSays answers true: the cases joined. -/
import Derived.Test.YtkincmkmkfiglaaRows
import Derived.Test.YtkincmkmkfiglaaTreeK
import Derived.Test.YtkincmkmkfiglaaArgs
namespace Go.Proofs.Ytkincmkmkfiglaa
open Go.RowKit

theorem i64_bd {a : Int} (h : (Lit.int .i64 a).wf = true) : -9223372036854775808 ≤ a ∧ a ≤ 9223372036854775807 := by
  simpa [Lit.wf, IntKind.min, IntKind.max, IntKind.signed, IntKind.bits] using h
theorem u64_bd {a : Int} (h : (Lit.int .u64 a).wf = true) : 0 ≤ a ∧ a ≤ 18446744073709551615 := by
  simpa [Lit.wf, IntKind.min, IntKind.max, IntKind.signed, IntKind.bits] using h
theorem treeSays_nat (ss : List ByteArray) (len : Nat) (ao : Option Addr) (cap : Nat) (k : Int) (A B : Nat) (n : Int) (s : ByteArray) (P : List Nat) (lp : Nat) (bo : Option Addr) (cp : Nat) (w : World) (hA : A < 18446744073709551616) (hB : B < 18446744073709551616) (hs : s.size ≤ 9223372036854775807) (hP : P.length = lp) (hc2 : lp ≤ cp) (hc3 : cp ≤ 9223372036854775807) (hbp : Hid (∀ x ∈ P, x < 18446744073709551616)) (hRP : Hid (Reads w bo (uL P)))
    (hl : ss.length = len) (hc0 : len ≤ cap) (hc1 : cap ≤ 9223372036854775807) (hss : Hid (∀ s ∈ ss, s.size ≤ 9223372036854775807)) (hR : Hid (Reads w ao (ss.map Value.string))) :
    Calls Try.prog 7 #[.slice ao len cap, .int .i64 k, .int .u64 A, .int .u64 B, .int .i64 n, .string s, .slice bo lp cp] w fun e w' => e = .returned (.bool true) ∧ Below w.heap.size w w' := by
  have hn : n < 1 ∨ 16 < n ∨ (1 ≤ n ∧ n ≤ 16 ∧ k < 0) ∨ (1 ≤ n ∧ n ≤ 16 ∧ n ≤ k ∧ 0 ≤ k) ∨ (1 ≤ n ∧ n ≤ 16 ∧ 0 ≤ k ∧ k < n) := by omega
  by_cases h0 : len = 0
  · rcases hn with h | h | h | h | h
    · exact tree_L0_N0 ss len ao cap k A B n s P lp bo cp w hA hB hs hP hc2 hc3 hbp hRP h0 h
    · exact tree_L0_N1 ss len ao cap k A B n s P lp bo cp w hA hB hs hP hc2 hc3 hbp hRP h0 h
    · exact tree_L0_NN ss len ao cap k A B n s P lp bo cp w hA hB hs hP hc2 hc3 hbp hRP h0 h
    · exact tree_L0_NB ss len ao cap k A B n s P lp bo cp w hA hB hs hP hc2 hc3 hbp hRP h0 h
    · exact tree_L0_NO ss len ao cap k A B n s P lp bo cp w hA hB hs hP hc2 hc3 hbp hRP h0 h
  by_cases h1 : 16 < len
  · rcases hn with h | h | h | h | h
    · exact tree_L1_N0 ss len ao cap k A B n s P lp bo cp w hA hB hs hP hc2 hc3 hbp hRP h1 h
    · exact tree_L1_N1 ss len ao cap k A B n s P lp bo cp w hA hB hs hP hc2 hc3 hbp hRP h1 h
    · exact tree_L1_NN ss len ao cap k A B n s P lp bo cp w hA hB hs hP hc2 hc3 hbp hRP h1 h
    · exact tree_L1_NB ss len ao cap k A B n s P lp bo cp w hA hB hs hP hc2 hc3 hbp hRP h1 h
    · exact tree_L1_NO ss len ao cap k A B n s P lp bo cp w hA hB hs hP hc2 hc3 hbp hRP h1 h
  have g1 : 1 ≤ len := by omega
  have g2 : len ≤ 16 := by omega
  by_cases hk : k < 0
  · rcases hn with h | h | h | h | h
    · exact tree_GN_N0 ss len ao cap k A B n s P lp bo cp w hA hB hs hP hc2 hc3 hbp hRP hl g1 g2 hc0 hc1 hss hR hk h
    · exact tree_GN_N1 ss len ao cap k A B n s P lp bo cp w hA hB hs hP hc2 hc3 hbp hRP hl g1 g2 hc0 hc1 hss hR hk h
    · exact tree_GN_NN ss len ao cap k A B n s P lp bo cp w hA hB hs hP hc2 hc3 hbp hRP hl g1 g2 hc0 hc1 hss hR hk h
    · omega
    · omega
  by_cases hk2 : (len : Int) ≤ k
  · rcases hn with h | h | h | h | h
    · exact tree_GB_N0 ss len ao cap k A B n s P lp bo cp w hA hB hs hP hc2 hc3 hbp hRP hl g1 g2 hc0 hc1 hss hR hk2 h
    · exact tree_GB_N1 ss len ao cap k A B n s P lp bo cp w hA hB hs hP hc2 hc3 hbp hRP hl g1 g2 hc0 hc1 hss hR hk2 h
    · omega
    · exact tree_GB_NB ss len ao cap k A B n s P lp bo cp w hA hB hs hP hc2 hc3 hbp hRP hl g1 g2 hc0 hc1 hss hR hk2 h
    · exact tree_GB_NO ss len ao cap k A B n s P lp bo cp w hA hB hs hP hc2 hc3 hbp hRP hl g1 g2 hc0 hc1 hss hR hk2 h
  · obtain ⟨K, hK⟩ : ∃ K : Nat, k = K := ⟨k.toNat, by omega⟩
    have hKl : K < len := by omega
    rcases hn with h | h | h | h | h
    · exact tree_GO_N0 ss len ao cap k A B n s P lp bo cp w hA hB hs hP hc2 hc3 hbp hRP hl g1 g2 hc0 hc1 hss hR K hK hKl h
    · exact tree_GO_N1 ss len ao cap k A B n s P lp bo cp w hA hB hs hP hc2 hc3 hbp hRP hl g1 g2 hc0 hc1 hss hR K hK hKl h
    · omega
    · exact tree_GO_NB ss len ao cap k A B n s P lp bo cp w hA hB hs hP hc2 hc3 hbp hRP hl g1 g2 hc0 hc1 hss hR K hK hKl h
    · exact tree_GO_NO ss len ao cap k A B n s P lp bo cp w hA hB hs hP hc2 hc3 hbp hRP hl g1 g2 hc0 hc1 hss hR K hK hKl h
theorem treeSays_walk (ao : Option Addr) (len cap : Nat) (ss : List ByteArray) (k a b n : Int) (s : ByteArray) (bo : Option Addr) (lp cp : Nat) (zs : List Int) (w : World)
    (w0 : StrsIn w ao len ss ∧ CapOk ao len cap) (w1 : (Lit.int .i64 k).wf = true) (w2 : (Lit.int .u64 a).wf = true) (w3 : (Lit.int .u64 b).wf = true) (w4 : (Lit.int .i64 n).wf = true) (w5 : s.size ≤ maxLen) (w6 : IntsIn .u64 w bo lp zs ∧ CapOk bo lp cp) :
    Calls Try.prog 7 #[.slice ao len cap, .int .i64 k, .int .u64 a, .int .u64 b, .int .i64 n, .string s, .slice bo lp cp] w fun e w' => e = .returned (.bool true) ∧ Below w.heap.size w w' := by
  have ha := u64_bd w2
  have hb := u64_bd w3
  obtain ⟨A, rfl⟩ : ∃ A : Nat, a = A := ⟨a.toNat, by omega⟩
  obtain ⟨B, rfl⟩ : ∃ B : Nat, b = B := ⟨b.toNat, by omega⟩
  obtain ⟨⟨hl, _, hss, hR⟩, _, hc0, hc1⟩ := w0
  obtain ⟨⟨hzl, _, hz, hRz⟩, _, hc2, hc3⟩ := w6
  have hzn : zs = (zs.map Int.toNat).map fun x : Nat => (x : Int) := by
    rw [List.map_map]
    conv => lhs; rw [← List.map_id zs]
    refine List.map_congr_left fun z h => ?_
    have := u64_bd (hz z h)
    show z = ((z.toNat : Nat) : Int)
    omega
  have hRP : Reads w bo (uL (zs.map Int.toNat)) := by
    unfold uL
    rw [hzn] at hRz
    rw [List.map_map] at hRz
    exact hRz
  unfold maxLen at w5
  exact treeSays_nat ss len ao cap k A B n s (zs.map Int.toNat) lp bo cp w (by omega) (by omega) w5 (by rw [List.length_map]; exact hzl) hc2 hc3
    (Lib.hid fun x hx => by obtain ⟨z, hz2, rfl⟩ := List.mem_map.1 hx; have := u64_bd (hz z hz2); omega) (Lib.hid hRP) hl hc0 hc1 (Lib.hid hss) (Lib.hid hR)
end Go.Proofs.Ytkincmkmkfiglaa
