/- Rows of the call's own, told by a function of the place. Laws over whatever program. -/
import Derived.Test.YtmeffbooabionaaMem2
import Derived.Laws.OwnMore
import Derived.Deep.AppendLies
set_option linter.unusedVariables false
set_option linter.unusedSimpArgs false
namespace Go.Proofs.Ytmeffbooabionaa
open Go.RowKit

theorem dr3 (w : World) (a b c : Nat) : ∃ k, ((w.drewN a).drewN b).drewN c = w.drewN k := ⟨a + b + c, by rw [World.drewN_drewN, World.drewN_drewN, Nat.add_assoc]⟩
def rowF (n : Nat) (f : Nat → Value) : List Value := (List.range n).map f
theorem rowF_length (n : Nat) (f : Nat → Value) : (rowF n f).length = n := by simp [rowF]
theorem rowF_get {n : Nat} (f : Nat → Value) {j : Nat} (h : j < n) : (rowF n f)[j]? = some (f j) := by simp [rowF, h]
theorem rowF_congr {n : Nat} {f g : Nat → Value} (h : ∀ j, j < n → f j = g j) : rowF n f = rowF n g :=
  List.map_congr_left fun j hj => h j (List.mem_range.1 hj)
theorem rowF_set {n i : Nat} (f : Nat → Value) (u : Value) : (rowF n f).set i u = rowF n (fun j => if j = i then u else f j) := by
  apply List.ext_getElem?
  intro j
  rw [List.getElem?_set]
  by_cases h : j < n
  · rw [rowF_get _ h, rowF_get _ h, rowF_length]
    by_cases hij : i = j
    · subst hij; rw [if_pos rfl, if_pos h, if_pos rfl]
    · rw [if_neg hij, if_neg (fun h => hij h.symm)]
  · rw [List.getElem?_eq_none (by rw [rowF_length]; omega), List.getElem?_eq_none (by rw [rowF_length]; omega), rowF_length]
    split
    · rw [if_neg (by omega)]
    · rfl
theorem rowF_succ (n : Nat) (f : Nat → Value) : rowF (n + 1) f = rowF n f ++ [f n] := by simp [rowF, List.range_succ]
theorem rowF_zero (f : Nat → Value) : rowF 0 f = [] := rfl
theorem replicate_rowF (n : Nat) (z : Value) : List.replicate n z = rowF n (fun _ => z) := by
  apply List.ext_getElem?
  intro j
  by_cases h : j < n
  · rw [rowF_get _ h]; simp [h]
  · rw [List.getElem?_eq_none (by simp; omega), List.getElem?_eq_none (by rw [rowF_length]; omega)]
theorem rowF_one {n : Nat} {f : Nat → Value} (h : ∀ j, (f j).oneCell' = true) : ∀ u ∈ rowF n f, u.oneCell' = true := by
  intro u hu
  obtain ⟨j, _, rfl⟩ := List.mem_map.1 hu
  exact h j
theorem map_rowF {α : Type} (l : List α) (g : α → Value) (d : α) : l.map g = rowF l.length (fun j => g (l.getD j d)) := by
  apply List.ext_getElem?
  intro j
  by_cases h : j < l.length
  · rw [rowF_get _ h]; simp [h]
  · rw [List.getElem?_eq_none (by simp; omega), List.getElem?_eq_none (by rw [rowF_length]; omega)]

/-- A row of one-cell elements at the head of block g: n places, told by f. -/
def Own (w : World) (base e g n cap : Nat) (f : Nat → Value) : Prop := w.ownsRow base e 1 (.slice (some ⟨g, 0, none⟩) n cap) n (rowF n f)
theorem Own.cell {w : World} {base e g n cap : Nat} {f : Nat → Value} (h : Own w base e g n cap f) {i : Nat} (hi : i < n) : w.cell? ⟨g, i, none⟩ = some (f i) := by
  have h1 := World.ownsRow.cellAt (g := g) (cap := cap) (n := n) h i (by omega)
  rw [h1, rowF_get f hi]
theorem Own.frozen {w : World} {base e g n cap : Nat} {f : Nat → Value} (h : Own w base e g n cap f) (i : Nat) : w.frozen? ⟨g, i, none⟩ = false := World.ownsRow.frozenAt h i
theorem Own.store {w : World} {base e g n cap : Nat} {f : Nat → Value} (h : Own w base e g n cap f) (i : Nat) (u : Value) :
    Own (w.setCell ⟨g, i, none⟩ u) base e g n cap (fun j => if j = i then u else f j) ∧ w.grownBy (w.setCell ⟨g, i, none⟩ u) (some g) := by
  have h1 := World.ownsRow.stored h i u
  refine ⟨?_, h1.2⟩
  have h2 := h1.1
  rw [rowF_set] at h2
  exact h2
theorem Own.congr {w : World} {base e g n cap : Nat} {f f' : Nat → Value} (h : Own w base e g n cap f) (hf : ∀ j, j < n → f j = f' j) : Own w base e g n cap f' := by
  unfold Own at h ⊢
  rwa [rowF_congr hf] at h
theorem Own.lt {w : World} {base e g n cap : Nat} {f : Nat → Value} (h : Own w base e g n cap f) : base ≤ g ∧ g < w.heap.size := World.ownsRow.lt h g rfl
theorem Own.below {w w' : World} {base e g n cap : Nat} {f : Nat → Value} (h : Own w base e g n cap f) (hb : Below w.heap.size w w') : Own w' base e g n cap f := own_below h hb
theorem Own.drewN {w : World} {base e g n cap : Nat} {f : Nat → Value} (h : Own w base e g n cap f) (k : Nat) : Own (w.drewN k) base e g n cap f := h.below (below_dr _ _ _)
theorem Own.reads {w : World} {base e g n cap : Nat} {f : Nat → Value} (h : Own w base e g n cap f) : Reads w (some ⟨g, 0, none⟩) (rowF n f) := by
  obtain ⟨ao, cp, hv, hR, _, _⟩ := own_reads h
  cases hv; exact hR
theorem Own.kept {w w' : World} {base e g n cap : Nat} {f : Nat → Value} {r : Nat} (h : Own w base e g n cap f) (hg : w.grownBy w' (some r)) (hne : g ≠ r) : Own w' base e g n cap f :=
  World.ownsRow.kept h hg (.inr fun h => hne (by injection h))
/-- What a store into an own row leaves below the row's base. -/
theorem Own.belowStore {w w0 : World} {base e g n cap : Nat} {f : Nat → Value} (h : Own w base e g n cap f) (hb : Below base w0 w) (hs : base ≤ w0.heap.size) (i : Nat) (u : Value) : Below base w0 (w.setCell ⟨g, i, none⟩ u) :=
  hb.trans ((Below.refl base w).grown (h.store i u).2 (Nat.le_trans hs hb.size) (fun k hk => by cases hk; exact h.lt.1))
/-- A row that is written out: '[]T{x, ..}' of one-cell elements. -/
theorem own_lit (w : World) (base e : Nat) (xs : List Value) (hb : base ≤ w.heap.size) (hm : xs.length ≤ maxLen) :
    (w.alloc (.cells xs.toArray e)).ownsRow base e 1 (.slice (some ⟨w.heap.size, 0, none⟩) xs.length xs.length) xs.length xs :=
  ⟨by simp, .inr ⟨w.heap.size, xs.length, xs.toArray, rfl, hb, heap_alloc_new w _, Nat.le_refl _, hm, by simp, by simp⟩⟩
theorem own_form {w : World} {base e size : Nat} {v : Value} {n : Nat} {xs : List Value} (h : w.ownsRow base e size v n xs) (hx : xs ≠ []) : ∃ g cap, v = .slice (some ⟨g, 0, none⟩) n cap := by
  rcases h.2 with ⟨_, hnil⟩ | ⟨g, cap, cur, rfl, _⟩
  · exact absurd (List.eq_nil_of_length_eq_zero (by rw [h.1, hnil, Nat.zero_mul])) hx
  · exact ⟨g, cap, rfl⟩
/-- 'make([]T, n)' of one-cell elements. -/
theorem make_own {P : Program} {w : World} {ops : Array Oper} {rest : List Oper} {o : Oper} {a : Act} {Q : Exit → Act → World → Prop}
    (hg : o.guard = none) (l c : Operand) (t : TypeId) (hop : o.op = Op.makeSlice t l c)
    (base : Nat) (e : TypeId) (z : Value) (bytes : Nat) (h1 : P.underlying t = some (.slice e)) (hE : ElemRow P e z 1 bytes) (hzc : z.cells = #[z])
    (kl kc : IntKind) (L C : Int) (n : Nat) (hl : a.eval l = .int kl L) (hc : a.eval c = .int kc C) (hL : L = (n : Int)) (hC : C = (n : Int)) (b2 : bytes * n ≤ 281474976710656) (b3 : n ≤ maxLen) (b4 : base ≤ w.heap.size)
    (hK : ∀ w', Own w' base e w.heap.size n n (fun _ => z) → w.grownBy w' none → wpList P ops Q rest (a.put o.dst (.slice (some ⟨w.heap.size, 0, none⟩) n n)) w') :
    wpList P ops Q (o :: rest) a w := by
  refine make_len hg l c t hop base e z 1 bytes h1 hE kl kc L C n hl hc hL hC b2 b3 b4 fun w' hown hgr => hK w' ?_ hgr
  rw [hzc, Nat.mul_one, toList_madeCells_one, replicate_rowF] at hown
  exact hown
/-- 'append(s, x)' of one cell at a step of a region that draws its order; W is what has become of w0 with the new cell behind it. -/
theorem step_app1 {P : Program} {W : World} {ops : Array Oper} {o : Oper} {a : Act} {K : Act → World → Prop} {Q : Exit → Act → World → Prop} {E : Prop} (hgd : o.guard = none) (s x : Operand) (t : TypeId)
    (ho : o.op = .call { callee := .builtin .append, args := #[s, x], argTypes := #[t, t] })
    (base : Nat) (e : TypeId) (z : Value) (bytes : Nat) (ht : P.underlying t = some (.slice e)) (hE : ElemRow P e z 1 bytes)
    (v : Value) (n : Nat) (xs : List Value) (hs : a.eval s = v) (w0 : World) (hown : w0.ownsRow base e 1 v n xs)
    (u : Value) (hx : a.eval x = .slice (some ⟨w0.heap.size, 0, none⟩) 1 1) (h1 : u.oneCell' = true)
    (hW : Below (w0.heap.size + 1) (w0.alloc (.cells #[u] e)) W) (hsz : W.heap.size = w0.heap.size + 1)
    (h63 : n + 1 ≤ maxLen) (hbytes : (n + 1) * bytes ≤ 140737488355328) (hbase : base ≤ w0.heap.size)
    (h : ∀ g cap w', w'.ownsRow base e 1 (.slice (some ⟨g, 0, none⟩) (n + 1) cap) (n + 1) (xs ++ [u]) → (w0.alloc (.cells #[u] e)).grownBy w' v.ownBlock → Below base w0 w' →
      (v.ownBlock = some g ∨ g = w0.heap.size + 1) → g < w'.heap.size → K (a.put o.dst (.slice (some ⟨g, 0, none⟩) (n + 1) cap)) w') :
    if Region.wanted o (yielded ops a.tmps) = true then Oper.wp P o a W K Q else E := by
  obtain ⟨i, hi, hz, hsize, hby, hzs, hsz1⟩ := hE
  have hW2 : Below (w0.alloc (.cells #[u] e)).heap.size (w0.alloc (.cells #[u] e)) W := by rw [World.size_alloc]; exact hW
  have hnb : W.heap[w0.heap.size]? = some (.cells #[u] e) := by rw [hW.block _ (by omega)]; exact heap_alloc_new w0 _
  refine step_append_lies W hgd s x t ho base e i z 1 bytes ht hi hz hsize hby hzs hsz1 v n xs hs (own_below (hown.alloc _) hW2) ⟨w0.heap.size, 0, none⟩ 1 1 [u] hx (by simp) (World.news_of_block hnb) (by intro q hq; simp at hq; subst hq; exact h1) (by omega) h63 hbytes (by omega) (w0.heap.size + 1) hsz ?_
  intro g cap w' hown' hgr hat hlt
  have hgr2 : (w0.alloc (.cells #[u] e)).grownBy w' v.ownBlock := ⟨hgr.os.trans hW.os, hgr.tape.trans hW.tape, hgr.output.trans hW.output, by rw [World.size_alloc]; have := hgr.size; omega, fun k hk hne => by
    rw [World.size_alloc] at hk
    rw [hgr.block k (by omega) hne, hW.block k hk]⟩
  exact h g cap w' hown' hgr2 (((Below.refl base w0).alloc hbase _).grown hgr2 (by rw [World.size_alloc]; omega) fun k hk => (hown.lt k hk).1) hat hlt
end Go.Proofs.Ytmeffbooabionaa
