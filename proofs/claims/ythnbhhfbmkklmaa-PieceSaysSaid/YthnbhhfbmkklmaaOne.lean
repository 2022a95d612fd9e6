/- Append of one element onto a row of the call's own, at a step of a region that draws its order. A law over whatever program. -/
import Derived.Test.YthnbhhfbmkklmaaTwo
namespace Go.Proofs.Ythnbhhfbmkklmaa
open Go.RowKit

theorem step_app_one {P : Program} {W : World} {ops : Array Oper} {o : Oper} {a : Act} {K : Act → World → Prop} {Q : Exit → Act → World → Prop} {E : Prop} (hgd : o.guard = none) (s x : Operand) (t : TypeId)
    (ho : o.op = .call { callee := .builtin .append, args := #[s, x], argTypes := #[t, t] })
    (base : Nat) (e : TypeId) (z : Value) (size bytes : Nat) (ht : P.underlying t = some (.slice e)) (hE : ElemRow P e z size bytes)
    (v : Value) (n : Nat) (xs : List Value) (hs : a.eval s = v) (w0 : World) (hown : w0.ownsRow base e size v n xs)
    (wb : World) (hb : Below base wb w0) (hbs : base ≤ wb.heap.size) (hW : Below w0.heap.size w0 W)
    (q : Nat) (us : Array Value) (hx : a.eval x = .slice (some ⟨q, 0, none⟩) 1 1) (hq : W.heap[q]? = some (.cells us e)) (hlen : us.size = size) (h1 : ∀ u ∈ us.toList, u.oneCell' = true)
    (h63 : n + 1 ≤ maxLen) (hbytes : (n + 1) * bytes ≤ 140737488355328)
    (h : ∀ v' w', w'.ownsRow base e size v' (n + 1) (xs ++ us.toList) → Below base wb w' → K (a.put o.dst v') w') :
    if Region.wanted o (yielded ops a.tmps) = true then Oper.wp P o a W K Q else E := by
  obtain ⟨i, hi, hz, hsize, hby, hzs, hsz1⟩ := hE
  have hownW := own_below hown hW
  have hbW : Below base wb W := hb.trans (Below.mono hW hb.size |>.mono (by omega))
  refine step_append_lies W hgd s x t ho base e i z size bytes ht hi hz hsize hby hzs hsz1 v n xs hs hownW ⟨q, 0, none⟩ 1 1 us.toList hx (by simp [hlen]) (World.news_of_block hq) h1 (by omega) h63 hbytes (Nat.le_trans hbs hbW.size) W.heap.size rfl ?_
  intro g cap w' hown' hgr hat hlt
  exact h _ w' hown' (hbW.grown hgr (Nat.le_trans hbs hbW.size) fun k hk => (hown.lt k hk).1)
end Go.Proofs.Ythnbhhfbmkklmaa
