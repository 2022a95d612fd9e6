/- A slice of deeds (three numbers and a string), opened. -/
import Derived.Test.YtioecklnijhjgaaPlM46
import Derived.Test.YtioecklnijhjgaaPlM11
import Derived.Deep.Slices
import Derived.Deep.SlicePairs
set_option linter.unusedVariables false
set_option linter.unusedSimpArgs false
namespace Go.Proofs.Ytioecklnijhjgaa
open Go.RowKit Go.ChangeShapes Go.WideShapes

theorem ddCells_at (l : List Dd) (i : Nat) (u : Value) (h : (ddCells l)[i]? = some u) : ∃ k d q, l[k]? = some d ∧ q < 4 ∧ i = k * 4 + q ∧ (ddC d)[q]? = some u := by
  induction l generalizing i with
  | nil => simp [ddCells] at h
  | cons y t ih =>
    have e : ddCells (y :: t) = ddC y ++ ddCells t := by simp [ddCells]
    have h4 : (ddC y).length = 4 := rfl
    rw [e] at h
    by_cases hi : i < 4
    · rw [List.getElem?_append_left (by rw [h4]; exact hi)] at h
      exact ⟨0, y, i, rfl, hi, by omega, h⟩
    · rw [List.getElem?_append_right (by rw [h4]; omega), h4] at h
      obtain ⟨k, d, q, h1, h2, h3, h5⟩ := ih _ h
      exact ⟨k + 1, d, q, by simpa using h1, h2, by omega, h5⟩
theorem deeds_of {w : World} {a : Addr} {len cap m : Nat} (hl : len ≤ cap) (hm : cap ≤ maxLen) (hmm : len ≤ m)
    (h : ∀ i, i < m → ∃ d : Dd, (∀ q, q < 4 → w.cell? (a.add (i * 4 + q)) = (ddC d)[q]?) ∧ d.2.2.2.size ≤ maxLen) :
    ∃ ds : List Dd, DdIn w (some a) len ds := by
  obtain ⟨l, hlen, hp⟩ := choose_list len fun i hi => h i (by omega)
  unfold maxLen at hm hp
  refine ⟨l, hlen, by omega, reads_of ?_, ?_⟩
  · intro i u hu
    obtain ⟨k, d, q, hk, hq, rfl, he⟩ := ddCells_at _ _ _ hu
    rw [(hp k d hk).1 q hq]; exact he
  · intro d hd
    obtain ⟨i, hi⟩ := List.getElem?_of_mem hd
    exact (hp i d hi).2
theorem dd_nil (w : World) : DdIn w none 0 [] := ⟨rfl, by omega, by intro q v hv; simp [ddCells] at hv, by simp⟩
section
variable {H : Type} {enc : TypeId × Value → H} {P : Program} {w : World} {base : Nat} {spare : Nat → Bool} {held : Bool}
theorem open_deeds {t e : TypeId} {f0 f1 f2 f3 : Field} {fuel : Nat} {cs : List Value} {x : DataW H × List MemPlace} (ht : P.underlying t = some (.slice e)) (he : P.underlying e = some (.struct #[f0, f1, f2, f3]))
    (ce : P.cellsOf e = 4) (o0 : f0.offset = 0) (o1 : f1.offset = 1) (o2 : f2.offset = 2) (o3 : f3.offset = 3) (c0 : P.cellsOf f0.type = 1) (c1 : P.cellsOf f1.type = 1) (c2 : P.cellsOf f2.type = 1) (c3 : P.cellsOf f3.type = 1)
    (u0 : P.underlying f0.type = some (.int .i64)) (u1 : P.underlying f1.type = some (.int .i64)) (u2 : P.underlying f2.type = some (.int .i64)) (u3 : P.underlying f3.type = some .string)
    (h : DataW.trod enc P w base spare held fuel t cs = some x) :
    cs = [.slice none 0 0] ∨ ∃ (a : Addr) (len cap : Nat) (ds : List Dd), cs = [.slice (some a) len cap] ∧ len ≤ cap ∧ cap ≤ maxLen ∧ DdIn w (some a) len ds := by
  rcases Go.Deep.open_slice ht h with h0 | ⟨a, len, cap, m, n, D, Pl, rfl, hb, hl, hm, hmm, rfl, hx⟩
  · exact .inl h0.1
  right
  have hlm : len ≤ m := by rw [hmm]; split <;> omega
  obtain ⟨ds, hds⟩ := deeds_of (w := w) (a := a) hl hm hlm (fun i hi => by
    obtain ⟨cs', h1, h2⟩ := hx i hi
    rw [ce] at h1
    obtain ⟨_, hlen, hcell⟩ := World.cells?_some h1
    obtain ⟨xs, k, hk, hxy, _, hxl, hf⟩ := DataW.trod_struct he h2
    match xs, hxl, cs', hlen with
    | [y0, y1, y2, y3], _, [v0, v1, v2, v3], _ =>
      have g0 := hf 0 f0 rfl
      have g1 := hf 1 f1 rfl
      have g2 := hf 2 f2 rfl
      have g3 := hf 3 f3 rfl
      simp [o0, o1, o2, o3, c0, c1, c2, c3] at g0 g1 g2 g3
      obtain ⟨m0, e0, _, _⟩ := DataW.trod_int u0 g0
      obtain ⟨m1, e1, _, _⟩ := DataW.trod_int u1 g1
      obtain ⟨m2, e2, _, _⟩ := DataW.trod_int u2 g2
      obtain ⟨s3, e3, _, hs3⟩ := DataW.trod_string u3 g3
      simp at e0 e1 e2 e3
      subst e0 e1 e2 e3
      refine ⟨(m0, m1, m2, s3), fun q hq => ?_, hs3⟩
      have hc := hcell q (by omega)
      rw [Go.Deep.add_add] at hc
      rw [hc]
      rfl)
  exact ⟨a, len, cap, ds, rfl, hl, hm, hds⟩
end
end Go.Proofs.Ytioecklnijhjgaa
