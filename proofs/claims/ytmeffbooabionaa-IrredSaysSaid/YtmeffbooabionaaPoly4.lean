/- poly.checks, poly.Mul, poly.Add. -/
import Derived.Test.YtmeffbooabionaaPoly3
import Derived.Laws.CopyOwn
set_option linter.unusedVariables false
set_option linter.unusedSimpArgs false
namespace Go.Proofs.Ytmeffbooabionaa
open Go.RowKit

structure PolOk (p : Int) (f : List Int) : Prop where
  p1 : 2 ≤ p
  p2 : p ≤ 997
  pr : IsPr p.toNat
  len : f.length ≤ 40
  inF : InF p f
  trm : Trm f
theorem polOk_of {p : Int} {f : List Int} (h : polE p f = 0) : PolOk p f := by
  unfold polE at h
  rcases fldE_cases p with ⟨h1, h2, h3, h4⟩ | h1
  · rw [h1, if_neg (by omega)] at h
    split at h
    · omega
    · rename_i hl
      split at h
      · omega
      · rename_i ha
        split at h
        · omega
        · rename_i ht
          refine ⟨h2, h3, h4, by omega, fun x hx => ?_, ?_⟩
          · rw [Bool.not_eq_true, List.any_eq_false] at ha
            have := ha x hx
            unfold outF at this
            simp at this
            omega
          · rcases Nat.eq_zero_or_pos f.length with h0 | h0
            · exact .inl h0
            · exact .inr fun hc => ht ⟨h0, hc⟩
  · rw [h1, if_pos rfl] at h; omega
noncomputable def chkE (p : Int) (f g : List Int) : Int := if polE p f = 0 then polE p g else polE p f
theorem chkE_zero {p : Int} {f g : List Int} (hf : polE p f = 0) (hg : polE p g = 0) : chkE p f g = 0 := by unfold chkE; rw [if_pos hf, hg]
theorem chkE_ok {p : Int} {f g : List Int} (h : chkE p f g = 0) : polE p f = 0 ∧ polE p g = 0 := by
  unfold chkE at h
  split at h
  · exact ⟨‹_›, h⟩
  · exact absurd h ‹_›
/-- What Mul hands back for right polynomials. -/
def MulPost (p : Int) (c : Nat → Int) (w : World) (e : Ending) (w' : World) : Prop :=
  ∃ h, IsPol p c h ∧ Below w.heap.size w w' ∧ ((40 < h.length ∧ e = .returned (.tuple #[.slice none 0 0, .int .i64 2])) ∨ (h.length ≤ 40 ∧ ∃ v, e = .returned (.tuple #[v, .int .i64 0]) ∧ w'.ownsRow w.heap.size 3 1 v h.length (h.map (Value.int .i64))))
theorem own_of_heap {w : World} {base e G n : Nat} (f : Nat → Value) (hb : base ≤ G) (h : w.heap[G]? = some (.cells (rowF n f).toArray e (0, 0))) (hn : n ≤ maxLen) : Own w base e G n n f :=
  ⟨by rw [rowF_length, Nat.mul_one], .inr ⟨G, n, (rowF n f).toArray, rfl, hb, h, Nat.le_refl _, hn, by simp [rowF_length], by rw [Nat.mul_one, List.take_of_length_le (by simp [rowF_length])]⟩⟩
theorem splice_row (n : Nat) (f : List Int) (h : f.length ≤ n) : splice (rowF n fun _ => Value.int .i64 0) 0 (f.map (Value.int .i64)) = rowF n (iV (co f)) := by
  apply List.ext_getElem?
  intro j
  unfold splice
  rw [List.take_zero, List.nil_append, Nat.zero_add, List.length_map, List.getElem?_append]
  by_cases hj : j < n
  · rw [rowF_get _ hj]
    by_cases h2 : j < f.length
    · rw [if_pos (by rw [List.length_map]; exact h2), List.getElem?_map, co_some h2]; rfl
    · rw [if_neg (by rw [List.length_map]; exact h2), List.getElem?_drop, List.length_map, show f.length + (j - f.length) = j by omega, rowF_get _ hj]
      unfold iV
      rw [co_out (by omega)]
  · rw [if_neg (by rw [List.length_map]; omega), List.getElem?_eq_none (by simp [rowF_length]; omega), List.getElem?_eq_none (by rw [rowF_length]; omega)]
def addS (p : Int) (f g : List Int) (j k : Nat) : Int := if k < j then (co f k + co g k) % p else co f k
theorem addS_step (p : Int) (f g : List Int) (j k : Nat) : addS p f g (j + 1) k = if k = j then (addS p f g j j + co g j) % p else addS p f g j k := by
  unfold addS
  by_cases h : k = j
  · subst h; rw [if_pos rfl, if_pos (by omega), if_neg (by omega)]
  · rw [if_neg h]
    by_cases h2 : k < j
    · rw [if_pos h2, if_pos (by omega)]
    · rw [if_neg h2, if_neg (by omega)]
/-- What is handed back: a polynomial and no error. -/
def Pol2Post (p : Int) (c : Nat → Int) (w : World) (e : Ending) (w' : World) : Prop :=
  ∃ h v, IsPol p c h ∧ Below w.heap.size w w' ∧ e = .returned (.tuple #[v, .int .i64 0]) ∧ w'.ownsRow w.heap.size 3 1 v h.length (h.map (Value.int .i64))
theorem add_made {w w1 w2 : World} {base G n : Nat} {L : List Value} (h : Own w2 base 3 G n n (fun _ => Value.int .i64 0)) (hL : (rowF n fun _ => Value.int .i64 0) = L) (hgs : w1.heap.size = G) (hb1 : Below w.heap.size w w1) (hg : w1.grownBy w2 none) :
    w2.heap[G]? = some (.cells L.toArray 3 (0, 0)) ∧ Below w.heap.size w w2 := by
  refine ⟨?_, hb1.trans (below_of_grown hg hb1.size (by intro k hk; cases hk))⟩
  rcases h.2 with ⟨hv, _⟩ | ⟨g, cap, cur, hv, hbg, hh, hnc, hcm, hcs, htake⟩
  · cases hv
  · injection hv with e1 e2 e3
    injection e1 with e1
    injection e1 with e1
    subst e1 e3
    rw [hh, ← hL, ← htake, List.take_of_length_le (by rw [Array.length_toList, hcs]; exact Nat.le_refl _)]
theorem add_src {w : World} {ao : Option Addr} {F : List Value} (h : Reads w ao F) (hpos : 0 < F.length) : ∃ ad, ao = some ad ∧ ∀ j v, F[j]? = some v → w.cell? (ad.add j) = some v := by
  obtain ⟨b, o, rfl, _⟩ := h 0 _ (List.getElem?_eq_getElem hpos)
  refine ⟨_, rfl, fun j v hv => ?_⟩
  obtain ⟨b2, o2, ha, hc⟩ := h j v hv
  injection ha with ha
  injection ha with e1 e2
  subst e1 e2
  rw [Addr.add_lit]; exact hc
end Go.Proofs.Ytmeffbooabionaa
