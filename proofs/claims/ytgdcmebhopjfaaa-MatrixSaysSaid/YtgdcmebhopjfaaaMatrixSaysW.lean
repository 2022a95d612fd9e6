/- MatrixSays: the walk, of whatever tables. -/
import Derived.Test.YtgdcmebhopjfaaaMatrixK
namespace Go.Proofs.Ytgdcmebhopjfaaa
open Go.RowKit

theorem matrixSays_walk (a0 : Option Addr) (len0 cap0 : Nat) (S : List Hd) (a1 : Option Addr) (len1 cap1 : Nat) (T : List Hd) (w : World) (hS : TabIn w a0 len0 S) (hT : TabIn w a1 len1 T) :
    Calls Try.prog 6 #[.slice a0 len0 cap0, .slice a1 len1 cap1] w fun e w' => e = .returned (.bool true) ∧ Below w.heap.size w w' := by
  by_cases hE : tabE (zof S) = 0
  · obtain ⟨C, oS, _⟩ := hS.ok hE
    by_cases hnC : len0 = C
    · by_cases hF : tabE (zof T) = 0
      · obtain ⟨c, oT, _⟩ := hT.ok hF
        by_cases hmC : len1 = C
        · exact matrix_square_ok S T len0 len1 C a0 a1 cap0 cap1 w hS hT hE oS hnC hF hmC c oT
        · exact matrix_square_form S T len0 len1 C a0 a1 cap0 cap1 w hS hT hE oS hnC hF hmC
      · exact matrix_square_err S T len0 len1 C a0 a1 cap0 cap1 w hS hT hE oS hnC hF
    · by_cases hF : tabE (zof T) = 0
      · obtain ⟨c, oT, _⟩ := hT.ok hF
        by_cases hmC : len1 = C
        · exact matrix_wide_ok S T len0 len1 C a0 a1 cap0 cap1 w hS hT hE oS hnC hF hmC c oT
        · exact matrix_wide_form S T len0 len1 C a0 a1 cap0 cap1 w hS hT hE oS hnC hF hmC
      · exact matrix_wide_err S T len0 len1 C a0 a1 cap0 cap1 w hS hT hE oS hnC hF
  · exact matrix_bad S T len0 len1 0 a0 a1 cap0 cap1 w hS hT hE
end Go.Proofs.Ytgdcmebhopjfaaa
