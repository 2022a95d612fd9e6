/- QuorumSays: what the boxes of its arguments hold. -/
import Derived.Test.YtkincmkmkfiglaaRows
import Derived.Test.YtkincmkmkfiglaaQuorumE
import Derived.Test.YtkincmkmkfiglaaTwo
import Derived.Deep.RegionHeld3
namespace Go.Proofs.Ytkincmkmkfiglaa
open Go.RowKit

theorem below_keep {W W' : World} {a : Addr} {v : Value} (hb : Below W.heap.size W W') (h : W.cell? a = some v) : W'.cell? a = some v := (hb.cell (World.block_lt_of_cell? W _ h)).trans h
theorem below_chain {w W W' : World} (h : Below w.heap.size w W) (hb : Below W.heap.size W W') : Below w.heap.size w W' := h.trans (Below.mono hb h.size)
theorem cell_new' (W : World) (xs : Array Value) (e : TypeId) (k b : Nat) (v : Value) (hb : W.heap.size = b) (h : xs[k]? = some v) : (W.alloc (.cells xs e)).cell? ⟨b, k, none⟩ = some v := by
  subst hb
  rw [cell_of_row (W.alloc (.cells xs e)) W.heap.size k xs e (0, 0) (heap_alloc_new W _)]
  exact h
/-- What the boxes hold. -/
structure Boxes (W : World) (b0 b1 b2 : Nat) (n k wr r an ab bn bb : Int) : Prop where
  q0 : W.cell? ⟨b0, 0, none⟩ = some (.int .i64 n)
  q1 : W.cell? ⟨b0, 1, none⟩ = some (.int .i64 k)
  q2 : W.cell? ⟨b0, 2, none⟩ = some (.int .i64 wr)
  q3 : W.cell? ⟨b0, 3, none⟩ = some (.int .i64 r)
  a0 : W.cell? ⟨b1, 0, none⟩ = some (.int .i64 an)
  a1 : W.cell? ⟨b1, 1, none⟩ = some (.int .i64 ab)
  c0 : W.cell? ⟨b2, 0, none⟩ = some (.int .i64 bn)
  c1 : W.cell? ⟨b2, 1, none⟩ = some (.int .i64 bb)
theorem Boxes.below {W W' : World} {b0 b1 b2 : Nat} {n k wr r an ab bn bb : Int} (h : Boxes W b0 b1 b2 n k wr r an ab bn bb) (hb : Below W.heap.size W W') : Boxes W' b0 b1 b2 n k wr r an ab bn bb :=
  ⟨below_keep hb h.q0, below_keep hb h.q1, below_keep hb h.q2, below_keep hb h.q3, below_keep hb h.a0, below_keep hb h.a1, below_keep hb h.c0, below_keep hb h.c1⟩
theorem boxes_new (w : World) (n k wr r an ab bn bb : Int) (t s : TypeId) :
    Boxes (((w.alloc (.cells #[.int .i64 n, .int .i64 k, .int .i64 wr, .int .i64 r] t)).alloc (.cells #[.int .i64 an, .int .i64 ab] s)).alloc (.cells #[.int .i64 bn, .int .i64 bb] s)) w.heap.size (w.heap.size + 1) (w.heap.size + 1 + 1) n k wr r an ab bn bb := by
  have h1 : Below (w.alloc (.cells #[.int .i64 n, .int .i64 k, .int .i64 wr, .int .i64 r] t)).heap.size (w.alloc (.cells #[.int .i64 n, .int .i64 k, .int .i64 wr, .int .i64 r] t)) ((w.alloc (.cells #[.int .i64 n, .int .i64 k, .int .i64 wr, .int .i64 r] t)).alloc (.cells #[.int .i64 an, .int .i64 ab] s)) := below_alloc _ _
  have h2 := below_alloc ((w.alloc (.cells #[.int .i64 n, .int .i64 k, .int .i64 wr, .int .i64 r] t)).alloc (.cells #[.int .i64 an, .int .i64 ab] s)) (.cells #[.int .i64 bn, .int .i64 bb] s)
  refine ⟨below_keep h2 (below_keep h1 ?_), below_keep h2 (below_keep h1 ?_), below_keep h2 (below_keep h1 ?_), below_keep h2 (below_keep h1 ?_), below_keep h2 ?_, below_keep h2 ?_, ?_, ?_⟩
  · exact cell_new' _ _ _ 0 _ _ rfl rfl
  · exact cell_new' _ _ _ 1 _ _ rfl rfl
  · exact cell_new' _ _ _ 2 _ _ rfl rfl
  · exact cell_new' _ _ _ 3 _ _ rfl rfl
  · exact cell_new' _ _ _ 0 _ _ (by simp) rfl
  · exact cell_new' _ _ _ 1 _ _ (by simp) rfl
  · exact cell_new' _ _ _ 0 _ _ (by simp) rfl
  · exact cell_new' _ _ _ 1 _ _ (by simp) rfl
end Go.Proofs.Ytkincmkmkfiglaa
