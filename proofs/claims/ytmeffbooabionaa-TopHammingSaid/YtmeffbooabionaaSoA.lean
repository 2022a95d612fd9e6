/- slices.Sort at rows of uint16: the array that a row holds, the swap of two of its elements, cmp.Less. -/
import Derived.Test.YtmeffbooabionaaRows
import Derived.Test.YtmeffbooabionaaTwo
import Derived.Test.YtmeffbooabionaaFormK
import Derived.Sort.Walk13a
import Derived.Sort.LotB
import Derived.Sort.AssemblyPlain
import Derived.Sort.LotD5
import Derived.BigRegion
set_option linter.unusedVariables false
set_option linter.unusedSimpArgs false
namespace Go.Proofs.Ytmeffbooabionaa
open Go.RowKit

def ltN (x y : Nat) : Bool := decide (x < y)
theorem swoN : Sort.SWO ltN := ⟨fun x => by simp [ltN], fun x y z h1 h2 => by simp [ltN] at *; omega, fun x y z h1 h2 => by simp [ltN] at *; omega⟩
def eU (d : Array Nat) (i : Nat) : Value := .int .u16 (d[i]! : Int)
theorem eU_of {d : Array Nat} {i x : Nat} (h : d[i]! = x) : eU d i = .int .u16 (x : Int) := by unfold eU; rw [h]
theorem get_swp (d : Array Nat) (i j k : Nat) (hi : i < d.size) (hj : j < d.size) : (Sort.swp d i j)[k]! = if k = j then d[i]! else if k = i then d[j]! else d[k]! := by
  unfold Sort.swp
  by_cases h1 : k = j
  · subst h1
    rw [if_pos rfl, Sort.getElem!_set_same _ _ _ (by simpa using hj)]
  · rw [if_neg h1, Sort.getElem!_set_other _ _ _ _ h1]
    by_cases h2 : k = i
    · subst h2
      rw [if_pos rfl, Sort.getElem!_set_same _ _ _ hi]
    · rw [if_neg h2, Sort.getElem!_set_other _ _ _ _ h2]
theorem sz_swp (d : Array Nat) (i j : Nat) : (Sort.swp d i j).size = d.size := by unfold Sort.swp; simp
/-- Behind the two stores of a swap. -/
theorem own_swap {w : World} {base T g n cap : Nat} {d : Array Nat} {i j x y : Nat} (h : Own w base T g n cap (eU d)) (hn : d.size = n) (hi : i < n) (hj : j < n) (hx : d[i]! = x) (hy : d[j]! = y) :
    Own ((w.setCell ⟨g, i, none⟩ (.int .u16 (y : Int))).setCell ⟨g, j, none⟩ (.int .u16 (x : Int))) base T g n cap (eU (Sort.swp d i j)) := by
  have st := h.store i (.int .u16 (y : Int))
  have st2 := st.1.store j (.int .u16 (x : Int))
  refine st2.1.congr fun a _ => ?_
  unfold eU
  rw [get_swp d i j a (by omega) (by omega)]
  by_cases h1 : a = j
  · rw [if_pos h1, if_pos h1, hx]
  · rw [if_neg h1, if_neg h1]
    by_cases h2 : a = i
    · rw [if_pos h2, if_pos h2, hy]
    · rw [if_neg h2, if_neg h2]
theorem below_swap {w w0 : World} {base T g n cap : Nat} {d : Array Nat} {i j : Nat} {u v : Value} (h : Own w base T g n cap (eU d)) (hb : Below base w0 w) (hs : base ≤ w0.heap.size) :
    Below base w0 ((w.setCell ⟨g, i, none⟩ u).setCell ⟨g, j, none⟩ v) :=
  (h.store i u).1.belowStore (h.belowStore hb hs i u) hs j v
theorem own_drew {w : World} {base T g n cap : Nat} {f : Nat → Value} (h : Own w base T g n cap f) : Own w.drew base T g n cap f := h.drewN 1
/-- What a function of the sort answers: the row holds another array. -/
def SoPost (base n g cap : Nat) (w : World) (v : Value) (d' : Array Nat) (e : Ending) (w' : World) : Prop :=
  e = .returned v ∧ Own w' base 29 g n cap (eU d') ∧ Below base w w'
theorem cmp_Less_u16 (a b : Nat) (w : World) :
    Calls Try.prog 90 #[.int .u16 a, .int .u16 b] w fun e w' => e = .returned (.bool (ltN a b)) ∧ ∃ n, w' = w.drewN n := by
  have ha : ((a : Int) != (a : Int)) = false := by simp
  have hb : ((b : Int) != (b : Int)) = false := by simp
  have hd : decide ((a : Int) < (b : Int)) = ltN a b := by unfold ltN; simp
  go_enter Try.func90, Try.ntmps90
  go_wp2
  go_ret
  first
    | exact ⟨ret_bool hd, 0, rfl⟩
    | exact ⟨ret_bool (by simp [ltN]), 0, rfl⟩
end Go.Proofs.Ytmeffbooabionaa
