/- Slices that came in: what their cells hold. Over whatever program. -/
import Derived.Test.YtmeffbooabionaaRow
import Derived.ChangeSlices
import Derived.SliceStrings
set_option linter.unusedVariables false
set_option linter.unusedSimpArgs false
namespace Go.Proofs.Ytmeffbooabionaa
open Go.RowKit

def IntsIn (k : IntKind) (w : World) (ao : Option Addr) (len : Nat) (zs : List Int) : Prop :=
  zs.length = len ∧ len ≤ 9223372036854775807 ∧ (∀ z ∈ zs, (Lit.int k z).wf = true) ∧ Reads w ao (zs.map (Value.int k))
theorem intsIn_nil (k : IntKind) (w : World) : IntsIn k w none 0 [] := ⟨rfl, by omega, by simp, Reads.nil _ _⟩
theorem addr_of_cell {w : World} {a : Addr} {v : Value} (h : w.cell? a = some v) : a = ⟨a.block, a.off, none⟩ := by
  obtain ⟨b, o, s⟩ := a
  cases s with
  | none => rfl
  | some s => unfold World.cell? at h; split at h <;> simp at h
theorem reads_of {w : World} {a : Addr} {xs : List Value} (h : ∀ (i : Nat) (u : Value), xs[i]? = some u → w.cell? (a.add i) = some u) : Reads w (some a) xs := by
  intro j u hu
  have h0 : 0 < xs.length := by have := (List.getElem?_eq_some_iff.1 hu).1; omega
  have h1 := h 0 _ (List.getElem?_eq_getElem h0)
  have e : a.add 0 = a := rfl
  rw [e] at h1
  have ha := addr_of_cell h1
  have h2 := h j u hu
  rw [ha, Addr.add_lit] at h2
  exact ⟨a.block, a.off, by rw [← ha], h2⟩
theorem intsIn_of {k : IntKind} {w : World} {a : Addr} {len cap : Nat} {zs : List Int} (hl : len ≤ cap) (hm : cap ≤ maxLen) (hz : zs.length = cap)
    (hc : ∀ i, i < zs.length → w.cell? (a.add i) = some (.int k (zs.getD i 0))) (hw : ∀ n ∈ zs, (Lit.int k n).wf = true) : IntsIn k w (some a) len (zs.take len) := by
  unfold maxLen at hm
  refine ⟨by rw [List.length_take]; omega, by omega, fun z hz2 => hw z (List.mem_of_mem_take hz2), reads_of fun i u hu => ?_⟩
  rw [List.getElem?_map, List.getElem?_take] at hu
  split at hu
  · rename_i hi
    have hi2 : i < zs.length := by omega
    rw [List.getElem?_eq_getElem hi2] at hu
    simp only [Option.map_some, Option.some.injEq] at hu
    rw [hc i hi2, ← hu, List.getD_eq_getElem?_getD, List.getElem?_eq_getElem hi2]; rfl
  · simp at hu
def StrsIn (w : World) (ao : Option Addr) (len : Nat) (ss : List ByteArray) : Prop :=
  ss.length = len ∧ len ≤ 9223372036854775807 ∧ (∀ s ∈ ss, s.size ≤ 9223372036854775807) ∧ Reads w ao (ss.map Value.string)
theorem strsIn_nil (w : World) : StrsIn w none 0 [] := ⟨rfl, by omega, by simp, Reads.nil _ _⟩
theorem strsIn_of {w : World} {a : Addr} {len cap : Nat} {ss : List ByteArray} (hl : len ≤ cap) (hm : cap ≤ maxLen) (hz : ss.length = cap)
    (hc : ∀ i, i < ss.length → w.cell? (a.add i) = some (.string (ss.getD i ByteArray.empty))) (hw : ∀ s ∈ ss, s.size ≤ maxLen) : StrsIn w (some a) len (ss.take len) := by
  unfold maxLen at hm hw
  refine ⟨by rw [List.length_take]; omega, by omega, fun z hz2 => hw z (List.mem_of_mem_take hz2), reads_of fun i u hu => ?_⟩
  rw [List.getElem?_map, List.getElem?_take] at hu
  split at hu
  · rename_i hi
    have hi2 : i < ss.length := by omega
    rw [List.getElem?_eq_getElem hi2] at hu
    simp only [Option.map_some, Option.some.injEq] at hu
    rw [hc i hi2, ← hu, List.getD_eq_getElem?_getD, List.getElem?_eq_getElem hi2]; rfl
  · simp at hu
/-- The capacity of a slice that came in. -/
def CapOk (ao : Option Addr) (len cap : Nat) : Prop := (ao = none → len = 0 ∧ cap = 0) ∧ len ≤ cap ∧ cap ≤ 9223372036854775807
theorem u8_wf {a : Int} (h : (Lit.int .u8 a).wf = true) : 0 ≤ a ∧ a ≤ 255 := by
  simpa [Lit.wf, IntKind.min, IntKind.max, IntKind.signed, IntKind.bits] using h
end Go.Proofs.Ytmeffbooabionaa
