/- slices.Sort at uint16: the list comes out sorted. -/
import Derived.Test.YtmeffbooabionaaSoL
import Derived.Test.YtmeffbooabionaaRow
set_option linter.unusedVariables false
set_option linter.unusedSimpArgs false
namespace Go.Proofs.Ytmeffbooabionaa
open Go.RowKit

def cellsU (xs : List Nat) : List Value := xs.map fun x : Nat => Value.int .u16 (x : Int)
theorem cellsU_len (xs : List Nat) : (cellsU xs).length = xs.length := by simp [cellsU]
theorem rowF_eU (d : Array Nat) (n : Nat) (h : d.size = n) : rowF n (eU d) = cellsU d.toList := by
  subst h
  apply List.ext_getElem?
  intro j
  by_cases hj : j < d.size
  · unfold rowF cellsU eU
    simp [hj]
  · rw [List.getElem?_eq_none (by unfold rowF; simp; omega), List.getElem?_eq_none (by rw [cellsU_len]; simp; omega)]
/-- What the sort makes of a list. -/
def srtU (l : List Nat) : List Nat := l.mergeSort fun x y => decide (x ≤ y)
theorem pdq_srt (xs : List Nat) (lim : Nat) : (Sort.pdq ltN xs.toArray 0 xs.length lim true true).toList = srtU xs := by
  have h := Sort.pdq_sorts ltN swoN xs.toArray 0 xs.length lim true true (Nat.zero_le _) (by simp) (Or.inl rfl)
  have hsz : (Sort.pdq ltN xs.toArray 0 xs.length lim true true).size = xs.length := by simpa using h.1.1
  have h2 := Sort.sorted_unique_holds (lt := ltN) swoN (fun x y h1 h2 => by simp [ltN] at h1 h2; omega) xs.toArray _ (by simpa using h.1) (by simpa using h.2)
  rw [h2]
  unfold srtU ltN
  congr 1
  funext x y
  by_cases hxy : x ≤ y
  · simp [hxy]
  · simp [hxy]; omega
theorem srtU_len (l : List Nat) : (srtU l).length = l.length := by unfold srtU; rw [List.length_mergeSort]
theorem srtU_perm (l : List Nat) : (srtU l).Perm l := List.mergeSort_perm _ _
theorem srtU_sorted (l : List Nat) : (srtU l).Pairwise (· ≤ ·) := by
  have := List.pairwise_mergeSort (le := fun x y : Nat => decide (x ≤ y)) (fun a b c h1 h2 => by simp at *; omega) (fun a b => by simp; omega) l
  unfold srtU
  exact this.imp (by intro a b h; simpa using h)
set_option maxRecDepth 100000 in
set_option maxHeartbeats 1000000 in
theorem sort_u16 (xs : List Nat) (n base g cap : Nat) (w : World) (hn : n ≤ 1000000) (hl : xs.length = n) (hO : w.ownsRow base 29 1 (.slice (some ⟨g, 0, none⟩) n cap) n (cellsU xs)) (hb : base ≤ w.heap.size) :
    Calls Try.prog 38 #[.slice (some ⟨g, 0, none⟩) n cap] w fun e w' =>
      e = .returned (.tuple #[]) ∧ w'.ownsRow base 29 1 (.slice (some ⟨g, 0, none⟩) n cap) n (cellsU (srtU xs)) ∧ Below base w w' := by
  have hO2 : Own w base 29 g n cap (eU xs.toArray) := by
    unfold Own
    rw [rowF_eU _ _ (by simpa using hl)]
    simpa using hO
  obtain ⟨K, hK⟩ : ∃ K, Lib.bitLen n = K := ⟨_, rfl⟩
  have hKl : K ≤ 1000 := by rw [← hK, bitLen_eq _ (by omega)]; exact Nat.le_trans (bitsLen_le (k := 20) (by omega)) (by omega)
  have CI := Lib.hid (fun W h1 h2 => so_pdq (n + 1) n 0 n K base g cap xs.toArray W (by omega) hn (by simpa using hl) (Nat.zero_le _) (Nat.le_refl _) hKl (Or.inl rfl) h1 h2)
  have CL := Lib.hid (fun W => bits_Len (n : Int) W (by omega) (by omega))
  rw [Int.toNat_natCast, hK] at CL
  have HF := Lib.hid (show (Sort.pdq ltN xs.toArray 0 n K true true).toList = srtU xs ∧ (Sort.pdq ltN xs.toArray 0 n K true true).size = n by
    rw [← hl]
    have := pdq_srt xs K
    refine ⟨this, ?_⟩
    have h2 := congrArg List.length this
    rw [srtU_len] at h2
    simpa using h2)
  have HO := Lib.hid hO2
  have HB : Hid (base ≤ w.heap.size) := hb
  have wu : IntKind.u64.wrap (n : Int) = (n : Int) := by rw [IntKind.wrap_u64]; omega
  clear hO hO2 hb hK
  go_enter Try.func38, Try.ntmps38
  go_wp2_with (first
    | (go_at_call 67; refine (CL.out _).mono ?_; rintro e w' ⟨rfl, rfl⟩)
    | (go_at_call 66; refine (CI.out _ HO.out HB.out).mono ?_; rintro e w2 ⟨rfl, hO2, hB2⟩)
    | fail)
  go_end0
  refine ⟨rfl, ?_, hB2⟩
  unfold Own at hO2
  rw [rowF_eU _ _ HF.out.2, HF.out.1] at hO2
  exact hO2
set_option maxRecDepth 100000 in
set_option maxHeartbeats 1000000 in
/-- Of nothing. -/
theorem sort_nil16 (w : World) : Calls Try.prog 38 #[.slice none 0 0] w fun e w' => e = .returned (.tuple #[]) ∧ w' = w := by
  have CL := Lib.hid (fun W => bits_Len 0 W (by omega) (by omega))
  rw [show Lib.bitLen (0 : Int).toNat = 0 from rfl] at CL
  have CI := Lib.hid (show ∀ W, Calls Try.prog 84 #[.slice none 0 0, .int .i64 0, .int .i64 0] W (fun e w' => e = .returned (.tuple #[]) ∧ w' = W) by
    intro W
    go_enter Try.func84, Try.ntmps84
    go_wp2_with fail
    refine wp_loop_rounds 1 ?_
    rw [rounds_succ]
    go_wp2_with fail
    go_end0
    exact ⟨rfl, rfl⟩)
  have CP := Lib.hid (show ∀ W, Calls Try.prog 66 #[.slice none 0 0, .int .i64 0, .int .i64 0, .int .i64 0] W (fun e w' => e = .returned (.tuple #[]) ∧ w' = W) by
    intro W
    go_enter Try.func66, Try.ntmps66
    go_wp2_with fail
    refine wp_loop_rounds 1 ?_
    rw [rounds_succ]
    go_wp2_with (first | (go_at_call 84; refine (CI.out _).mono ?_; rintro e w2 ⟨rfl, rfl⟩) | fail)
    (try simp only [Exit.inBlock, Exit.then])
    refine bodyPost_ret (results_none rfl _ _ _) rfl ?_
    exact ⟨rfl, rfl⟩)
  go_enter Try.func38, Try.ntmps38
  go_wp2_with (first
    | (go_at_call 67; refine (CL.out _).mono ?_; rintro e w' ⟨rfl, rfl⟩)
    | (go_at_call 66; refine (CP.out _).mono ?_; rintro e w2 ⟨rfl, rfl⟩)
    | fail)
  go_end0
  exact ⟨rfl, rfl⟩
end Go.Proofs.Ytmeffbooabionaa
