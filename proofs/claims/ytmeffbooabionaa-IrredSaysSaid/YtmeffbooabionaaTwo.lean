/- Append of one cell onto one of two rows of the call's own, at a step of a region that draws its order. Laws over whatever program. -/
import Derived.Test.YtmeffbooabionaaRow2
set_option linter.unusedVariables false
set_option linter.unusedSimpArgs false
namespace Go.Proofs.Ytmeffbooabionaa
open Go.RowKit

theorem below_drew1 {B : Nat} {w w' : World} (h : Below B w w') : Below B w w'.drew := below_drewN h 1
theorem heap_new' (w : World) (o : Obj) (k : Nat) (hk : w.heap.size = k) : (w.alloc o).heap[k]? = some o := by subst hk; exact heap_alloc_new w o
theorem heap_drew {w : World} {k : Nat} {b : Obj} (h : w.heap[k]? = some b) : w.drew.heap[k]? = some b := h
theorem heap_drewN {w : World} {n k : Nat} {b : Obj} (h : w.heap[k]? = some b) : (w.drewN n).heap[k]? = some b := h
theorem heap_alloc_old (w : World) (o : Obj) {k : Nat} {b : Obj} (h : w.heap[k]? = some b) : (w.alloc o).heap[k]? = some b := by
  have := (Array.getElem?_eq_some_iff.1 h).1
  show (w.heap.push o)[k]? = _
  rw [Array.getElem?_push, if_neg (by omega)]; exact h
theorem heap_grown_old {w w' : World} {r : Option Nat} {k : Nat} {b : Obj} (hg : w.grownBy w' r) (h : w.heap[k]? = some b) (hne : some k ≠ r) : w'.heap[k]? = some b := by
  rw [hg.block k (Array.getElem?_eq_some_iff.1 h).1 hne]; exact h
theorem ownBlock_ne {w : World} {base e size : Nat} {v : Value} {n : Nat} {xs : List Value} (h : w.ownsRow base e size v n xs) {k : Nat} (hk : w.heap.size ≤ k) : some k ≠ v.ownBlock := by
  intro he
  have := (h.lt k he.symm).2
  omega
theorem step_app_two {P : Program} {W : World} {ops : Array Oper} {o : Oper} {a : Act} {K : Act → World → Prop} {Q : Exit → Act → World → Prop} {E : Prop} (hgd : o.guard = none) (s x : Operand) (t : TypeId)
    (ho : o.op = .call { callee := .builtin .append, args := #[s, x], argTypes := #[t, t] })
    (base : Nat) (e : TypeId) (z : Value) (bytes : Nat) (ht : P.underlying t = some (.slice e)) (hE : ElemRow P e z 1 bytes)
    (v : Value) (n : Nat) (xs : List Value) (hs : a.eval s = v) (w0 : World) (hown : w0.ownsRow base e 1 v n xs)
    (e2 : TypeId) (v2 : Value) (m : Nat) (ys : List Value) (hoth : w0.ownsRow base e2 1 v2 m ys) (hap : Apart v v2)
    (wb : World) (hb : Below base wb w0) (hbs : base ≤ wb.heap.size) (hW : Below w0.heap.size w0 W)
    (q : Nat) (u : Value) (hx : a.eval x = .slice (some ⟨q, 0, none⟩) 1 1) (hq : W.heap[q]? = some (.cells #[u] e)) (h1 : u.oneCell' = true)
    (h63 : n + 1 ≤ maxLen) (hbytes : (n + 1) * bytes ≤ 140737488355328)
    (h : ∀ g cap w', w'.ownsRow base e 1 (.slice (some ⟨g, 0, none⟩) (n + 1) cap) (n + 1) (xs ++ [u]) → w'.ownsRow base e2 1 v2 m ys → Apart (.slice (some ⟨g, 0, none⟩) (n + 1) cap) v2 → Below base wb w' →
      W.grownBy w' v.ownBlock → K (a.put o.dst (.slice (some ⟨g, 0, none⟩) (n + 1) cap)) w') :
    if Region.wanted o (yielded ops a.tmps) = true then Oper.wp P o a W K Q else E := by
  obtain ⟨i, hi, hz, hsize, hby, hzs, hsz1⟩ := hE
  have hownW := own_below hown hW
  have hothW := own_below hoth hW
  have hbW : Below base wb W := hb.trans (Below.mono hW hb.size |>.mono (by omega))
  refine step_append_lies W hgd s x t ho base e i z 1 bytes ht hi hz hsize hby hzs hsz1 v n xs hs hownW ⟨q, 0, none⟩ 1 1 [u] hx (by simp) (World.news_of_block hq) (by intro q hq; simp at hq; subst hq; exact h1) (by omega) h63 hbytes (Nat.le_trans hbs hbW.size) W.heap.size rfl ?_
  intro g cap w' hown' hgr hat hlt
  refine h g cap w' hown' (hothW.kept hgr ?_) (hap.grow (k := W.heap.size) ?_ fun g hg => (hothW.lt g hg).2) (hbW.grown hgr (Nat.le_trans hbs hbW.size) fun k hk => (hown.lt k hk).1) hgr
  · cases hu : v2.ownBlock with
    | none => exact .inl rfl
    | some g => right; intro hv; exact hap g hv.symm hu
  · rcases hat with h | h
    · exact .inl h.symm
    · right; rw [h]; rfl
end Go.Proofs.Ytmeffbooabionaa
