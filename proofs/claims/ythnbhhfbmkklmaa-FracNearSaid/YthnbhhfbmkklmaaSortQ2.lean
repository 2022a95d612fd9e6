/- slices.SortFunc at fractions of the call's own. -/
import Derived.Test.YthnbhhfbmkklmaaSortQ
import Derived.Test.YthnbhhfbmkklmaaMem
import Derived.Test.YthnbhhfbmkklmaaArgs2
namespace Go.Proofs.Ythnbhhfbmkklmaa
open Go.Sort Go.RowKit

instance : Inhabited QF := ⟨⟨(0, 1), by omega, by omega, by omega⟩⟩
theorem encQ_cells (d : List QF) : d.flatMap encQ = cells2 (d.map fun x => (Value.int .i64 x.1.1, Value.int .i64 x.1.2)) := by
  unfold cells2 encQ
  rw [List.flatMap_map]
theorem flatQ (d : List QF) : (flatK encQ 2 d.toArray).toList = d.flatMap encQ := by
  rw [encQ_cells]
  apply List.ext_getElem?
  intro j
  by_cases hj : j < d.length * 2
  · obtain ⟨x, hx⟩ : ∃ x, d[j / 2]? = some x := ⟨_, List.getElem?_eq_getElem (show j / 2 < d.length by omega)⟩
    obtain ⟨h1, h2⟩ := cells2_get (d.map fun x : QF => (Value.int .i64 x.1.1, Value.int .i64 x.1.2)) (j / 2) (.int .i64 x.1.1, .int .i64 x.1.2) (by rw [List.getElem?_map, hx]; rfl)
    have hd : d.toArray[j / 2]! = x := by
      have hlt : j / 2 < d.length := by omega
      rw [List.getElem?_eq_getElem hlt] at hx
      have := Option.some.inj hx
      simp [hlt, this]
    have hf : (flatK encQ 2 d.toArray).toList[j]? = some ((encQ x)[j % 2]!) := by
      unfold flatK
      rw [Array.getElem?_toList]
      simp [hj]
      simpa using congrArg (fun z => (encQ z)[j % 2]!) hd
    rw [hf]
    have hm : j % 2 = 0 ∨ j % 2 = 1 := by omega
    rcases hm with hm | hm
    · rw [show j / 2 * 2 = j by omega] at h1
      rw [h1, hm]
      rfl
    · rw [show j / 2 * 2 + 1 = j by omega] at h2
      rw [h2, hm]
      rfl
  · rw [List.getElem?_eq_none (by simp; omega), List.getElem?_eq_none (by rw [cells2_length, List.length_map]; omega)]
theorem holds_of_blockV {w : World} {g : Nat} {cur : Array Value} {e : TypeId} {xs : List Value} {n : Nat} (hn : xs.length = n) (hb : w.heap[g]? = some (.cells cur e (0, 0))) (ht : cur.toList.take n = xs) : Holds id w g 0 xs.toArray := by
  intro j hj
  have hj' : j < xs.length := by simpa using hj
  refine ⟨?_, by simp [World.frozen?, hb]⟩
  have h1 : (cur.toList.take n)[j]? = xs[j]? := by rw [ht]
  rw [List.getElem?_take_of_lt (by omega)] at h1
  simp only [World.cell?, hb, Nat.zero_add]
  rw [Array.getElem?_toList] at h1
  rw [h1]
  simp [hj']
theorem heap_sortedV {w : World} {g n : Nat} {os : Array Obj} {cur : Array Value} {e : TypeId} {fr : Nat × Nat} (d : Array Value) (hb : w.heap[g]? = some (.cells cur e fr)) :
    (grow (putRow id (Sort.ahead w n) g 0 d) os).heap[g]? = some (.cells (putCells id 0 d cur) e fr) := by
  have hg : g < w.heap.size := (Array.getElem?_eq_some_iff.1 hb).1
  rw [heap_grow_old _ _ (by simpa using hg)]
  simp [putRow, mapBlock, Sort.ahead, Array.getElem?_modify, hb, onCells]
theorem grownBy_sortedV {w : World} {g n : Nat} {os : Array Obj} (d : Array Value) : w.grownBy (grow (putRow id (Sort.ahead w n) g 0 d) os) (some g) := by
  refine ⟨rfl, rfl, rfl, by simp, fun k hk hne => ?_⟩
  rw [heap_grow_old _ _ (by simpa using hk)]
  have : g ≠ k := fun e => hne (by rw [e])
  simp [putRow, mapBlock, Sort.ahead, Array.getElem?_modify, this]
theorem take_putCellsV (cur : Array Value) (ts : List Value) (h : ts.length ≤ cur.size) : (putCells id 0 ts.toArray cur).toList.take ts.length = ts := by
  apply List.ext_getElem?
  intro j
  by_cases hj : j < ts.length
  · rw [List.getElem?_take_of_lt hj, Array.getElem?_toList]
    simp [putCells, hj, show j < cur.size by omega]
  · rw [List.getElem?_take_eq_none (by omega), List.getElem?_eq_none (by omega)]
/-- What the sort makes of a list. -/
def srtQ (d : List QF) : List QF := (pdq (ltOf cfQ) d.toArray 0 d.length (Lib.bitLen d.length) true true).toList
theorem srtQ_len (d : List QF) : (srtQ d).length = d.length := by
  have h := (pdq_sorts (ltOf cfQ) swoQ d.toArray 0 d.toArray.size (Lib.bitLen d.toArray.size) true true (Nat.zero_le _) (Nat.le_refl _) (Or.inl rfl)).1.1
  unfold srtQ
  simpa using h
theorem flat_len2 (d : List QF) : (d.flatMap encQ).length = d.length * 2 := by rw [encQ_cells, cells2_length, List.length_map]
theorem sort_frac (G : FuncId) (hG : ∀ args w, (callFunc G args).run Try.prog w = .ok (.enter G args) w) (hcl : ∀ (x y : QF) (W : World), Calls Try.prog G #[.agg #[.int .i64 x.1.1, .int .i64 x.1.2], .agg #[.int .i64 y.1.1, .int .i64 y.1.2]] W fun e w' => e = .returned (.int .i64 (cfQ x y)) ∧ ∃ q os, w' = grow (W.drewN q) os)
    (d : List QF) (n base g cap : Nat) (w : World) (hn : d.length = n) (hn2 : n ≤ 1000000) (hO : w.ownsRow base 23 2 (.slice (some ⟨g, 0, none⟩) n cap) n (d.flatMap encQ)) :
    Calls Try.prog 45 #[.slice (some ⟨g, 0, none⟩) n cap, .func (.func G) #[] #[]] w fun e w' =>
      e = .returned (.tuple #[]) ∧ w'.ownsRow base 23 2 (.slice (some ⟨g, 0, none⟩) n cap) n ((srtQ d).flatMap encQ) ∧ w.grownBy w' (some g) := by
  rcases hO.2 with ⟨h0, _⟩ | ⟨g', cap', cur, hv, hb, hg, h1, h2, h3, h4⟩
  · cases h0
  injection hv with e1 e2 e3
  injection e1 with e1
  injection e1 with e1
  subst e1 e3
  have hlt : g < w.heap.size := (Array.getElem?_eq_some_iff.1 hg).1
  have hH : HoldsK encQ 2 w g 0 d.toArray := by
    show Holds id w g 0 (flatK encQ 2 d.toArray)
    have h := holds_of_blockV (xs := d.flatMap encQ) (n := n * 2) (by rw [flat_len2, hn]) hg h4
    rw [← flatQ] at h
    simpa using h
  have hc := AnyQ.slices_SortFunc_eq sortQ 2 Try.isAgg23 Try.sizeOf23 encQ (fun _ => rfl) (fun x v hv => by simp [encQ] at hv; rcases hv with rfl | rfl <;> rfl) cfQ swoQ G #[] g 0 cap d.toArray w hG (fun _ _ _ _ x y => hcl x y _) hH hlt (by simp; omega)
  have hs : d.toArray.size = n := by simpa using hn
  rw [hs] at hc
  refine Calls.mono hc ?_
  rintro e w' ⟨rfl, m, os, rfl⟩
  have ht : flatK encQ 2 (pdq (ltOf cfQ) d.toArray 0 n (Lib.bitLen n) true true) = ((srtQ d).flatMap encQ).toArray := by
    rw [← flatQ]
    unfold srtQ
    rw [hn]
  have hw : sortWorldK encQ 2 w g 0 m (pdq (ltOf cfQ) d.toArray 0 n (Lib.bitLen n) true true) os = grow (putRow id (Sort.ahead w m) g 0 ((srtQ d).flatMap encQ).toArray) os := by
    unfold sortWorldK putRowK
    rw [ht]
  rw [hw]
  have hl2 : ((srtQ d).flatMap encQ).length = n * 2 := by rw [flat_len2, srtQ_len, hn]
  refine ⟨rfl, ⟨hl2, .inr ⟨g, cap, _, rfl, hb, heap_sortedV _ hg, h1, h2, by simp [putCells, h3], ?_⟩⟩, grownBy_sortedV _⟩
  have h5 := take_putCellsV cur ((srtQ d).flatMap encQ) (by rw [hl2, h3]; exact Nat.mul_le_mul_right 2 h1)
  rw [hl2] at h5
  exact h5
end Go.Proofs.Ythnbhhfbmkklmaa
