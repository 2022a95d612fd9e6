/- Append of one cell where the operation is guarded. Laws over whatever program. -/
import Derived.Test.YtmeffbooabionaaRow
set_option linter.unusedVariables false
set_option linter.unusedSimpArgs false
namespace Go.Proofs.Ytmeffbooabionaa
open Go.RowKit

theorem wpList_wanted {P : Program} {ops : Array Oper} {Q : Exit → Act → World → Prop} {a : Act} {w : World} {rest : List Oper} {o : Oper} (hw : Region.wanted o (yielded ops a.tmps) = true)
    (h : o.wp P a w (wpList P ops Q rest) Q) : wpList P ops Q (o :: rest) a w := by
  unfold wpList
  rw [if_pos hw]
  exact .inl h
theorem wp_app1 {P : Program} {W : World} {o : Oper} {a : Act} {K : Act → World → Prop} {Q : Exit → Act → World → Prop} (s x : Operand) (t : TypeId)
    (ho : o.op = .call { callee := .builtin .append, args := #[s, x], argTypes := #[t, t] })
    (base : Nat) (e : TypeId) (z : Value) (bytes : Nat) (ht : P.underlying t = some (.slice e)) (hE : ElemRow P e z 1 bytes)
    (v : Value) (n : Nat) (xs : List Value) (hs : a.eval s = v) (w0 : World) (hown : w0.ownsRow base e 1 v n xs)
    (u : Value) (hx : a.eval x = .slice (some ⟨w0.heap.size, 0, none⟩) 1 1) (h1 : u.oneCell' = true)
    (hW : Below (w0.heap.size + 1) (w0.alloc (.cells #[u] e)) W) (hsz : W.heap.size = w0.heap.size + 1)
    (h63 : n + 1 ≤ maxLen) (hbytes : (n + 1) * bytes ≤ 140737488355328) (hbase : base ≤ w0.heap.size)
    (h : ∀ g cap w', w'.ownsRow base e 1 (.slice (some ⟨g, 0, none⟩) (n + 1) cap) (n + 1) (xs ++ [u]) → (w0.alloc (.cells #[u] e)).grownBy w' v.ownBlock → Below base w0 w' →
      (v.ownBlock = some g ∨ g = w0.heap.size + 1) → g < w'.heap.size → K (a.put o.dst (.slice (some ⟨g, 0, none⟩) (n + 1) cap)) w') :
    Oper.wp P o a W K Q := by
  obtain ⟨i, hi, hz, hsize, hby, hzs, hsz1⟩ := hE
  have hW2 : Below (w0.alloc (.cells #[u] e)).heap.size (w0.alloc (.cells #[u] e)) W := by rw [World.size_alloc]; exact hW
  have hnb : W.heap[w0.heap.size]? = some (.cells #[u] e) := by rw [hW.block _ (by omega)]; exact heap_alloc_new w0 _
  refine wp_append_lies W s x t ho base e i z 1 bytes ht hi hz hsize hby hzs hsz1 v n xs hs (own_below (hown.alloc _) hW2) ⟨w0.heap.size, 0, none⟩ 1 1 [u] hx (by simp) (World.news_of_block hnb) (by intro q hq; simp at hq; subst hq; exact h1) (by omega) h63 hbytes (by omega) (w0.heap.size + 1) hsz ?_
  intro g cap w' hown' hgr hat hlt
  have hgr2 : (w0.alloc (.cells #[u] e)).grownBy w' v.ownBlock := ⟨hgr.os.trans hW.os, hgr.tape.trans hW.tape, hgr.output.trans hW.output, by rw [World.size_alloc]; have := hgr.size; omega, fun k hk hne => by
    rw [World.size_alloc] at hk
    rw [hgr.block k (by omega) hne, hW.block k hk]⟩
  exact h g cap w' hown' hgr2 (((Below.refl base w0).alloc hbase _).grown hgr2 (by rw [World.size_alloc]; omega) fun k hk => (hown.lt k hk).1) hat hlt
/-- 'append(s, x)' of one cell where the operation is guarded, and wanted. -/
theorem app_guarded {P : Program} {w : World} {ops : Array Oper} {rest : List Oper} {o : Oper} {a : Act} {Q : Exit → Act → World → Prop} (hw : Region.wanted o (yielded ops a.tmps) = true) (s x : Operand) (t : TypeId)
    (ho : o.op = .call { callee := .builtin .append, args := #[s, x], argTypes := #[t, t] })
    (base : Nat) (e : TypeId) (z : Value) (bytes : Nat) (ht : P.underlying t = some (.slice e)) (hE : ElemRow P e z 1 bytes)
    (v : Value) (n : Nat) (xs : List Value) (hs : a.eval s = v) (hown : w.ownsRow base e 1 v n xs)
    (u : Value) (hx : a.eval x = .slice (some ⟨w.heap.size, 0, none⟩) 1 1) (h1 : u.oneCell' = true)
    (h63 : n + 1 ≤ maxLen) (hbytes : (n + 1) * bytes ≤ 140737488355328) (hbase : base ≤ w.heap.size)
    (h : ∀ g cap w', w'.ownsRow base e 1 (.slice (some ⟨g, 0, none⟩) (n + 1) cap) (n + 1) (xs ++ [u]) → Below base w w' → wpList P ops Q rest (a.put o.dst (.slice (some ⟨g, 0, none⟩) (n + 1) cap)) w') :
    wpList P ops Q (o :: rest) a (w.alloc (.cells #[u] e)) :=
  wpList_wanted hw (wp_app1 s x t ho base e z bytes ht hE v n xs hs w hown u hx h1 (Below.refl _ _) (by simp) h63 hbytes hbase fun g cap w' h2 _ h4 _ _ => h g cap w' h2 h4)
end Go.Proofs.Ytmeffbooabionaa
