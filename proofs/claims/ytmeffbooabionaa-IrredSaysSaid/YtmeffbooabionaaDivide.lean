/- Contracts of package divide: Moebius, check, sums. -/
import Derived.Test.YtmeffbooabionaaRows
import Derived.Test.YtmeffbooabionaaFactor
import Derived.Test.YtmeffbooabionaaIrM23
import Derived.Test.YtmeffbooabionaaGcdOf
import Derived.Test.YtmeffbooabionaaArgs
import Derived.Deep.RegionLaw
import Derived.Deep.DrawnRows
set_option linter.unusedVariables false
set_option linter.unusedSimpArgs false
namespace Go.Proofs.Ytmeffbooabionaa
open Go.RowKit

theorem powCells_get (l : List (Nat × Nat)) (k : Nat) (a : Nat × Nat) (h : l[k]? = some a) : (powCells l)[k * 2]? = some (.int .i64 a.1) ∧ (powCells l)[k * 2 + 1]? = some (.int .i64 a.2) := by
  induction l generalizing k with
  | nil => simp at h
  | cons b l ih =>
    cases k with
    | zero => simp at h; subst h; simp [powCells]
    | succ k =>
      simp at h
      have := ih k h
      have e1 : (k + 1) * 2 = k * 2 + 2 := by omega
      rw [e1]
      simpa [powCells] using this
theorem take_snoc2 {α : Type} (l : List α) (k : Nat) (a : α) (h : l[k]? = some a) : l.take (k + 1) = l.take k ++ [a] := by
  obtain ⟨hl, he⟩ := List.getElem?_eq_some_iff.1 h
  rw [List.take_succ_eq_append_getElem hl, he]
theorem valL_zero {g : Nat → Nat → Int} {l : List (Nat × Nat)} {a : Nat × Nat} (ha : a ∈ l) (h : g a.1 a.2 = 0) : valL g l = 0 := by
  induction l with
  | nil => simp at ha
  | cons b l ih =>
    simp only [valL]
    rw [List.mem_cons] at ha
    rcases ha with ha | ha
    · subst ha; rw [h, Int.zero_mul]
    · rw [ih ha, Int.mul_zero]
set_option maxRecDepth 100000 in
set_option maxHeartbeats 2000000 in
theorem divide_Moebius (n : Nat) (w : World) (h1 : 1 ≤ n) (hn : n ≤ 1000000) :
    Calls Try.prog 50 #[.int .i64 n] w fun e w' => e = .returned (.tuple #[.int .i64 (mu n), .int .i64 0]) ∧ Below w.heap.size w w' := by
  go_enter Try.func50, Try.ntmps50
  go_wp2_with fail
  refine (prime_Factor n w h1 hn).mono ?_
  rintro e w1 ⟨l, v, hF, hll, rfl, hown, hbel⟩
  obtain ⟨ao, cp, rfl, hR, hnone, hmx⟩ := own_reads hown
  have HF := Lib.hid hF
  have HR := Lib.hid hR
  have HB := Lib.hid hbel
  have HMU : Hid (mu n = valL muG l) := mult_eq hF
  obtain ⟨len, hlen⟩ : ∃ len, l.length = len := ⟨_, rfl⟩
  rw [hlen] at hll ⊢
  have HL := Lib.hid hlen
  clear hF hR hnone hmx hown hbel hlen
  go_wp2_with fail
  go_loopw [6, 19] (fun vo vi wr => ∃ (k : Nat) (o : Int), vi = .int .i64 k ∧ k ≤ len ∧ vo = .int .i64 o ∧ -1 ≤ o ∧ o ≤ 1 ∧ Hid (o = valL muG (l.take k)) ∧ Hid (Below w1.heap.size w1 wr)) (fun _ vi _ => len - (intOf vi).toNat)
  case atStart => exact ⟨0, 1, rfl, by omega, rfl, by omega, by omega, rfl, Below.refl _ _⟩
  case round =>
    obtain ⟨k, o, rfl, hk, rfl, ho1, ho2, hoe, hb⟩ := hrel
    by_cases hkl : k < len
    · obtain ⟨a, ha⟩ : ∃ a, l[k]? = some a := ⟨l[k]'(by rw [HL.out]; exact hkl), List.getElem?_eq_getElem _⟩
      have hma := List.mem_of_getElem? ha
      obtain ⟨P, N⟩ := a
      have hN1 := (HF.out.pr _ hma).2
      simp only at hN1
      have hc1 := powCells_get l k _ ha
      have hR2 := (HR.out).below hb.out
      obtain ⟨b, of, rfl, hcell1⟩ := hR2 _ _ hc1.1
      obtain ⟨b', of', hbo, hcell2⟩ := hR2 _ _ hc1.2
      simp only [Option.some.injEq, Addr.mk.injEq, and_true] at hbo
      obtain ⟨rfl, rfl⟩ := hbo
      have HT := Lib.hid (take_snoc2 l k _ ha)
      have hcell1' : wr.cell? ⟨b, of + k * 2, none⟩ = some (.int .i64 P) := hcell1
      have hcell2' : wr.cell? ⟨b, of + k * 2 + 1, none⟩ = some (.int .i64 N) := hcell2
      have HMA := Lib.hid hma
      clear hR2 hc1 ha hma hcell1 hcell2
      by_cases hN : N = 1
      · subst hN
        have hnew : Hid (-o = valL muG (l.take (k + 1))) := by
          show _ = _
          rw [HT.out, valL_append, ← hoe.out]
          simp [valL, muG]
        go_wp2_with fail
        go_roundw
        case rel => exact ⟨k + 1, -o, by go_num, by omega, by first | rfl | go_num, by omega, by omega, hnew, hb.out.trans ((Below.refl _ _).alloc hb.out.size _)⟩
        case measure => simp [intOf]; omega
      · have dN : decide ((1 : Int) < N) = true := by simp; omega
        have hz : Hid (mu n = 0) := by
          show _ = _
          rw [HMU.out]
          exact valL_zero HMA.out (by unfold muG; rw [if_neg hN])
        go_wp2_with fail
        go_ret2
        exact ⟨by rw [hz.out]; rfl, HB.out.trans (Below.mono (hb.out.trans ((Below.refl _ _).alloc hb.out.size _)) HB.out.size)⟩
    · have hfin : Hid (mu n = o) := by
        show _ = _
        rw [HMU.out, hoe.out, show k = l.length by rw [HL.out]; omega, List.take_length]
      go_wp2_with fail
      go_ret2
      exact ⟨by rw [hfin.out]; rfl, HB.out.trans (Below.mono hb.out HB.out.size)⟩
end Go.Proofs.Ytmeffbooabionaa
