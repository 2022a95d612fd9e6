/- slices.Equal at bytes. -/
import Derived.Test.YtioecklnijhjgaaRows
import Derived.Test.YtioecklnijhjgaaPlM0
import Derived.Test.YtioecklnijhjgaaPlM17
import Derived.Test.YtioecklnijhjgaaPlM16
set_option linter.unusedVariables false
set_option linter.unusedSimpArgs false
namespace Go.Proofs.Ytioecklnijhjgaa
open Go.RowKit
end Go.Proofs.Ytioecklnijhjgaa
namespace Go.Proofs.Ytioecklnijhjgaa
open Go.RowKit

def gfL (f : Nat → GF) (n : Nat) : List Int := (List.range n).map fun j => ((f j).val : Int)
theorem gfL_len (f : Nat → GF) (n : Nat) : (gfL f n).length = n := by simp [gfL]
theorem gfL_map (f : Nat → GF) (n : Nat) : (gfL f n).map (Value.int .u8) = rowF n (gfV f) := by simp [gfL, rowF, gfV, List.map_map, Function.comp_def]
/-- What Mend answers, whatever is handed in. -/
def MendAny (H : Nat → Bool) (B : Nat → GF) (n : Nat) (k : Int) (w : World) (e : Ending) (w' : World) : Prop :=
  ∃ am lm cm E, e = .returned (.tuple #[.slice am lm cm, .int .i64 E]) ∧ Below w.heap.size w w' ∧
    ((chkE 20 n k ≠ 0 ∧ E = chkE 20 n k ∧ lm = 0) ∨ (chkE 20 n k = 0 ∧ (pl H n).length < k.toNat ∧ E = 9 ∧ am = none ∧ lm = 0 ∧ cm = 0) ∨
     (chkE 20 n k = 0 ∧ k.toNat ≤ (pl H n).length ∧ ¬ Fit H B (pl H n) k.toNat n ∧ E = 8 ∧ am = none ∧ lm = 0 ∧ cm = 0) ∨
     (chkE 20 n k = 0 ∧ k.toNat ≤ (pl H n).length ∧ Fit H B (pl H n) k.toNat n ∧ E = 0 ∧ lm = n ∧ Reads w' am (rowF n (gfV fun j => rowP B (pl H n) k.toNat (gf j)))))
theorem chk_ok {n : Nat} {k : Int} (h : chkE 20 n k = 0) : n ≤ 20 ∧ 1 ≤ k ∧ k ≤ n := by
  unfold chkE at h
  split at h
  · cases h
  · split at h
    · cases h
    · omega
set_option maxRecDepth 20000 in
theorem reed_Mend_bad (n : Nat) (k : Int) (ao : Option Addr) (cap : Nat) (w : World) (h : chkE 20 n k ≠ 0) :
    Calls Try.prog 76 #[.slice ao n cap, .int .i64 k] w fun e w' => e = .returned (.tuple #[.slice none 0 0, .int .i64 (chkE 20 n k)]) ∧ w = w' := by
  have HC := Lib.hid (reed_Check n k ao cap w)
  obtain ⟨E, hE⟩ : ∃ E, chkE 20 n k = E := ⟨_, rfl⟩
  rw [hE] at HC h ⊢
  have d : (E != 0) = true := by simpa using h
  clear hE h
  go_enter Try.func76, Try.ntmps76
  go_wp2_with fail
  refine HC.out.mono ?_
  rintro e w' ⟨rfl, rfl⟩
  go_wp2_with fail
  go_ret2
  exact ⟨rfl, rfl⟩
theorem reed_Mend_any (H : Nat → Bool) (B : Nat → GF) (n : Nat) (k : Int) (ao : Option Addr) (cap : Nat) (w : World) (hR : Reads w ao (cellV H B n)) :
    Calls Try.prog 76 #[.slice ao n cap, .int .i64 k] w (MendAny H B n k w) := by
  by_cases h : chkE 20 n k = 0
  · obtain ⟨h1, h2, h3⟩ := chk_ok h
    obtain ⟨m, rfl⟩ : ∃ m : Nat, k = m := ⟨k.toNat, by omega⟩
    refine (reed_Mend H B n m ao cap w h1 (by omega) (by omega) hR).mono ?_
    rintro e w' ⟨hb, hh⟩
    have hm : (m : Int).toNat = m := by omega
    unfold MendAny
    rw [hm]
    rcases hh with ⟨a1, rfl⟩ | ⟨a1, a2, rfl⟩ | ⟨a1, a2, v, rfl, hv⟩
    · exact ⟨_, _, _, _, rfl, hb, .inr (.inl ⟨h, a1, rfl, rfl, rfl, rfl⟩)⟩
    · exact ⟨_, _, _, _, rfl, hb, .inr (.inr (.inl ⟨h, a1, a2, rfl, rfl, rfl, rfl⟩))⟩
    · obtain ⟨av, cv, rfl, hR, _, _⟩ := own_reads hv
      exact ⟨_, _, _, _, rfl, hb, .inr (.inr (.inr ⟨h, a1, a2, rfl, rfl, hR⟩))⟩
  · refine (reed_Mend_bad n k ao cap w h).mono ?_
    rintro e w' ⟨rfl, rfl⟩
    exact ⟨_, _, _, _, rfl, Below.refl _ _, .inl ⟨h, rfl, rfl⟩⟩
/-- Cells and bytes as they came in. -/
def hasOf (cs : List (Bool × Int)) (j : Nat) : Bool := (cs.getD j (false, 0)).1
def gfOf (cs : List (Bool × Int)) (j : Nat) : GF := gf (cs.getD j (false, 0)).2.toNat
def gfOfI (zs : List Int) (j : Nat) : GF := gf (zs.getD j 0).toNat
theorem cells_of {w : World} {ao : Option Addr} {n : Nat} {cs : List (Bool × Int)} (h : FlagsIn .u8 w ao n cs) : Reads w ao (cellV (hasOf cs) (gfOf cs) n) := by
  have e : (List.range n).map (fun i => ((.bool (hasOf cs i), gfV (gfOf cs) i) : Value × Value)) = cs.map fun z => (.bool z.1, .int .u8 z.2) := by
    apply List.ext_getElem?
    intro j
    have hl := h.1
    by_cases hj : j < n
    · have hj2 : j < cs.length := by omega
      have hw := u8_wf (h.2.2.1 _ (List.getElem_mem hj2))
      rw [List.getElem?_map, List.getElem?_map, List.getElem?_eq_getElem hj2]
      simp only [List.getElem?_range hj, Option.map_some, hasOf, gfOf, gfV, List.getD_eq_getElem?_getD, List.getElem?_eq_getElem hj2, Option.getD_some]
      rw [gf_val (by omega), Int.toNat_of_nonneg hw.1]
    · rw [List.getElem?_eq_none (by simp; omega), List.getElem?_eq_none (by simp; omega)]
  unfold cellV
  rw [e]; exact h.2.2.2
theorem bytes_of {w : World} {ao : Option Addr} {n : Nat} {zs : List Int} (h : IntsIn .u8 w ao n zs) : Reads w ao (rowF n (gfV (gfOfI zs))) := by
  have hl := h.1
  have e : zs.map (Value.int .u8) = rowF n (gfV (gfOfI zs)) := by
    rw [map_rowF zs (Value.int .u8) 0, hl]
    refine rowF_congr fun j hj => ?_
    have hj2 : j < zs.length := by omega
    have hw := u8_wf (h.2.2.1 _ (List.getElem_mem hj2))
    unfold gfV gfOfI
    rw [List.getD_eq_getElem?_getD, List.getElem?_eq_getElem hj2]
    simp only [Option.getD_some]
    rw [gf_val (by omega), Int.toNat_of_nonneg hw.1]
  rw [← e]; exact h.2.2.2
/-- What Put answers, whatever is handed in. -/
def PutAny (ys : Nat → GF) (n : Nat) (N : Int) (w : World) (e : Ending) (w' : World) : Prop :=
  ∃ am lm cm E, e = .returned (.tuple #[.slice am lm cm, .int .i64 E]) ∧ Below w.heap.size w w' ∧
    ((putE n N ≠ 0 ∧ E = putE n N ∧ lm = 0) ∨ (putE n N = 0 ∧ E = 0 ∧ lm = N.toNat ∧ Reads w' am (rowF N.toNat (gfV fun j => lag gf ys n (gf j)))))
theorem put_ok {n : Nat} {N : Int} (h : putE n N = 0) : 1 ≤ n ∧ n ≤ 20 ∧ (n : Int) ≤ N ∧ N ≤ 20 := by
  unfold putE at h
  split at h
  · cases h
  · split at h
    · cases h
    · omega
theorem reed_Put_any (ys : Nat → GF) (n : Nat) (N : Int) (ao : Option Addr) (cap : Nat) (w : World) (hy : Reads w ao (rowF n (gfV ys))) :
    Calls Try.prog 33 #[.slice ao n cap, .int .i64 N] w (PutAny ys n N w) := by
  by_cases h : putE n N = 0
  · obtain ⟨h1, h2, h3, h4⟩ := put_ok h
    obtain ⟨m, rfl⟩ : ∃ m : Nat, N = m := ⟨N.toNat, by omega⟩
    refine (reed_Put ys n m ao cap w h1 (by omega) (by omega) hy).mono ?_
    rintro e w' ⟨g, cp, rfl, hO, hb⟩
    have hm : (m : Int).toNat = m := by omega
    unfold PutAny
    rw [hm]
    exact ⟨_, _, _, _, rfl, hb, .inr ⟨h, rfl, rfl, hO.reads⟩⟩
  · refine (reed_Put_bad n N ao cap w h).mono ?_
    rintro e w' ⟨rfl, rfl⟩
    exact ⟨_, _, _, _, rfl, Below.refl _ _, .inl ⟨h, rfl, rfl⟩⟩
end Go.Proofs.Ytioecklnijhjgaa
namespace Go.Proofs.Ytioecklnijhjgaa
open Go.RowKit
end Go.Proofs.Ytioecklnijhjgaa
