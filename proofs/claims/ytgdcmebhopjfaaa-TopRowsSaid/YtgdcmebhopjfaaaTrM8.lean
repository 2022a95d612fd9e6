/- Append of one cell onto one of two rows of the call's own, at a step of a region that draws its order. Laws over whatever program. -/
import Derived.Test.YtgdcmebhopjfaaaTrM7
namespace Go.Proofs.Ytgdcmebhopjfaaa
open Go.RowKit

theorem below_drew1 {B : Nat} {w w' : World} (h : Below B w w') : Below B w w'.drew := below_drewN h 1
theorem heap_new' (w : World) (o : Obj) (k : Nat) (hk : w.heap.size = k) : (w.alloc o).heap[k]? = some o := by subst hk; exact heap_alloc_new w o
theorem heap_drew {w : World} {k : Nat} {b : Obj} (h : w.heap[k]? = some b) : w.drew.heap[k]? = some b := h
theorem heap_drewN {w : World} {n k : Nat} {b : Obj} (h : w.heap[k]? = some b) : (w.drewN n).heap[k]? = some b := h
theorem heap_alloc_old (w : World) (o : Obj) {k : Nat} {b : Obj} (h : w.heap[k]? = some b) : (w.alloc o).heap[k]? = some b := by
  have := (Array.getElem?_eq_some_iff.1 h).1
  show (w.heap.push o)[k]? = _
  rw [Array.getElem?_push, if_neg (by omega)]; exact h
theorem heap_grown_old {w w' : World} {r : Option Nat} {k : Nat} {b : Obj} (hg : w.grownBy w' r) (h : w.heap[k]? = some b) (hne : some k ≠ r) : w'.heap[k]? = some b := by
  rw [hg.block k (Array.getElem?_eq_some_iff.1 h).1 hne]; exact h
theorem ownBlock_ne {w : World} {base e size : Nat} {v : Value} {n : Nat} {xs : List Value} (h : w.ownsRow base e size v n xs) {k : Nat} (hk : w.heap.size ≤ k) : some k ≠ v.ownBlock := by
  intro he
  have := (h.lt k he.symm).2
  omega
theorem step_app_two {P : Program} {W : World} {ops : Array Oper} {o : Oper} {a : Act} {K : Act → World → Prop} {Q : Exit → Act → World → Prop} {E : Prop} (hgd : o.guard = none) (s x : Operand) (t : TypeId)
    (ho : o.op = .call { callee := .builtin .append, args := #[s, x], argTypes := #[t, t] })
    (base : Nat) (e : TypeId) (z : Value) (bytes : Nat) (ht : P.underlying t = some (.slice e)) (hE : ElemRow P e z 1 bytes)
    (v : Value) (n : Nat) (xs : List Value) (hs : a.eval s = v) (w0 : World) (hown : w0.ownsRow base e 1 v n xs)
    (e2 : TypeId) (v2 : Value) (m : Nat) (ys : List Value) (hoth : w0.ownsRow base e2 1 v2 m ys) (hap : Apart v v2)
    (wb : World) (hb : Below base wb w0) (hbs : base ≤ wb.heap.size) (hW : Below w0.heap.size w0 W)
    (q : Nat) (u : Value) (hx : a.eval x = .slice (some ⟨q, 0, none⟩) 1 1) (hq : W.heap[q]? = some (.cells #[u] e)) (h1 : u.oneCell' = true)
    (h63 : n + 1 ≤ maxLen) (hbytes : (n + 1) * bytes ≤ 140737488355328)
    (h : ∀ g cap w', w'.ownsRow base e 1 (.slice (some ⟨g, 0, none⟩) (n + 1) cap) (n + 1) (xs ++ [u]) → w'.ownsRow base e2 1 v2 m ys → Apart (.slice (some ⟨g, 0, none⟩) (n + 1) cap) v2 → Below base wb w' →
      W.grownBy w' v.ownBlock → K (a.put o.dst (.slice (some ⟨g, 0, none⟩) (n + 1) cap)) w') :
    if Region.wanted o (yielded ops a.tmps) = true then Oper.wp P o a W K Q else E := by
  obtain ⟨i, hi, hz, hsize, hby, hzs, hsz1⟩ := hE
  have hownW := own_below hown hW
  have hothW := own_below hoth hW
  have hbW : Below base wb W := hb.trans (Below.mono hW hb.size |>.mono (by omega))
  refine step_append_lies W hgd s x t ho base e i z 1 bytes ht hi hz hsize hby hzs hsz1 v n xs hs hownW ⟨q, 0, none⟩ 1 1 [u] hx (by simp) (World.news_of_block hq) (by intro q hq; simp at hq; subst hq; exact h1) (by omega) h63 hbytes (Nat.le_trans hbs hbW.size) W.heap.size rfl ?_
  intro g cap w' hown' hgr hat hlt
  refine h g cap w' hown' (hothW.kept hgr ?_) (hap.grow (k := W.heap.size) ?_ fun g hg => (hothW.lt g hg).2) (hbW.grown hgr (Nat.le_trans hbs hbW.size) fun k hk => (hown.lt k hk).1) hgr
  · cases hu : v2.ownBlock with
    | none => exact .inl rfl
    | some g => right; intro hv; exact hap g hv.symm hu
  · rcases hat with h | h
    · exact .inl h.symm
    · right; rw [h]; rfl
end Go.Proofs.Ytgdcmebhopjfaaa
namespace Go.Proofs.Ytgdcmebhopjfaaa
open Go.RowKit

structure Rag (w : World) (base tr tb G n i : Nat) (H : Nat → Hd) (v : Value) (k : Nat) (xs : List Value) : Prop where
  top : Own w base tr G n n (fun j => if j < i then (H j).v else if j = i then v else .slice none 0 0)
  done : ∀ j, j < i → RowOk w (H j)
  dne : ∀ j, j < i → ∀ a, (H j).A = some a → a.block ≠ G
  cur : w.ownsRow base tb 1 v k xs
  cne : v.ownBlock ≠ some G
  apart : ∀ j, j < i → ∀ a, (H j).A = some a → some a.block ≠ v.ownBlock
theorem Rag.start {w : World} {base tr tb G n : Nat} (h : Own w base tr G n n (fun _ => .slice none 0 0)) (H : Nat → Hd) : Rag w base tr tb G n 0 H (.slice none 0 0) 0 [] :=
  ⟨h.congr fun j _ => by rw [if_neg (by omega)]; split <;> rfl, fun j hj => by omega, fun j hj => by omega, World.ownsRow_nil _ _ _ _, (fun e => by cases e), fun j hj => by omega⟩
theorem RowOk.grown {w w' : World} {h : Hd} {r : Option Nat} (k : RowOk w h) (hg : w.grownBy w' r) (hne : ∀ a, h.A = some a → some a.block ≠ r) : RowOk w' h := ⟨k.none, k.cap, k.max, k.reads.grown hg hne, k.byte⟩
theorem Rag.below {w w' : World} {base tr tb G n i k : Nat} {H : Nat → Hd} {v : Value} {xs : List Value} (h : Rag w base tr tb G n i H v k xs) (hb : Below w.heap.size w w') : Rag w' base tr tb G n i H v k xs :=
  ⟨h.top.below hb, fun j hj => (h.done j hj).below hb, h.dne, own_below h.cur hb, h.cne, h.apart⟩
theorem Rag.cell {w : World} {base tr tb G n i k : Nat} {H : Nat → Hd} {v : Value} {xs : List Value} (h : Rag w base tr tb G n i H v k xs) (hi : i < n) : w.cell? ⟨G, i, none⟩ = some v := by
  have := h.top.cell hi
  rwa [if_neg (by omega), if_pos rfl] at this
theorem rowOk_lt {w : World} {h : Hd} (k : RowOk w h) (hz : 0 < h.Z.length) : ∀ a, h.A = some a → a.block < w.heap.size := by
  intro a ha
  obtain ⟨x, hx⟩ : ∃ x, h.Z[0]? = some x := ⟨_, List.getElem?_eq_getElem hz⟩
  obtain ⟨b, o, h1, h2⟩ := k.reads 0 _ (u8s_get hx)
  rw [ha] at h1
  cases h1
  exact World.block_lt_of_cell? _ _ h2
theorem Rag.appTop {w w' : World} {base tr tb G n i k : Nat} {H : Nat → Hd} {v : Value} {xs : List Value} {o : Obj} (h : Rag w base tr tb G n i H v k xs) (hi : i < n) (hgr : (w.alloc o).grownBy w' v.ownBlock) :
    w'.cell? ⟨G, i, none⟩ = some v ∧ w'.frozen? ⟨G, i, none⟩ = false := by
  have hal : Below w.heap.size w (w.alloc o) := (Below.refl _ _).alloc (Nat.le_refl _) _
  have ht : Own w' base tr G n n (fun j => if j < i then (H j).v else if j = i then v else .slice none 0 0) :=
    World.ownsRow.kept (h.top.below hal) hgr (.inr fun e => h.cne e.symm)
  refine ⟨?_, ht.frozen i⟩
  have := ht.cell hi
  rwa [if_neg (by omega), if_pos rfl] at this
/-- 'out[i] = append(out[i], u)'. -/
theorem Rag.app {w w' : World} {base tr tb G n i k : Nat} {H : Nat → Hd} {v v' : Value} {xs : List Value} {u : Value} {o : Obj} (h : Rag w base tr tb G n i H v k xs) (hi : i < n) (hz : ∀ j, j < i → 0 < (H j).Z.length)
    (hgr : (w.alloc o).grownBy w' v.ownBlock) (hown : w'.ownsRow base tb 1 v' (k + 1) (xs ++ [u])) (hv : v'.ownBlock = v.ownBlock ∨ v'.ownBlock = some (w.heap.size + 1)) :
    Rag (w'.setCell ⟨G, i, none⟩ v') base tr tb G n i H v' (k + 1) (xs ++ [u]) ∧ w'.grownBy (w'.setCell ⟨G, i, none⟩ v') (some G) := by
  have hal : Below w.heap.size w (w.alloc o) := (Below.refl _ _).alloc (Nat.le_refl _) _
  have ht : Own w' base tr G n n (fun j => if j < i then (H j).v else if j = i then v else .slice none 0 0) :=
    World.ownsRow.kept (h.top.below hal) hgr (.inr fun e => h.cne e.symm)
  have hd : ∀ j, j < i → RowOk w' (H j) := fun j hj => ((h.done j hj).below hal).grown hgr (h.apart j hj)
  have hne : v'.ownBlock ≠ some G := by
    rcases hv with hv | hv
    · rw [hv]; exact h.cne
    · rw [hv]; intro e; injection e with e; have := h.top.lt.2; omega
  have ha : ∀ j, j < i → ∀ a, (H j).A = some a → some a.block ≠ v'.ownBlock := by
    intro j hj a hA
    rcases hv with hv | hv
    · rw [hv]; exact h.apart j hj a hA
    · rw [hv]; intro e; injection e with e; have := rowOk_lt (h.done j hj) (hz j hj) a hA; omega
  have st := ht.store i v'
  refine ⟨⟨st.1.congr fun j _ => ?_, fun j hj => (hd j hj).grown st.2 fun a hA e => ?_, h.dne, World.ownsRow.kept hown st.2 ?_, hne, ha⟩, st.2⟩
  · by_cases h1 : j = i
    · rw [if_pos h1, if_neg (by omega), if_pos h1]
    · rw [if_neg h1]
      by_cases h2 : j < i
      · rw [if_pos h2, if_pos h2]
      · rw [if_neg h2, if_neg h2, if_neg h1, if_neg h1]
  · injection e with e; exact h.dne j hj a hA e
  · cases hb : v'.ownBlock with
    | none => exact .inl rfl
    | some g => exact .inr fun e => hne (by rw [hb]; exact e)
/-- 'out[i] = slices.Clip(out[i])': row i is done. -/
theorem Rag.clip {w : World} {base tr tb G n i g m cap : Nat} {H : Nat → Hd} {Z : List Nat} (h : Rag w base tr tb G n i H (.slice (some ⟨g, 0, none⟩) m cap) m (u8s Z)) (hm : 0 < m) (hz : ∀ z ∈ Z, z < 256) :
    Rag (w.setCell ⟨G, i, none⟩ (.slice (some ⟨g, 0, none⟩) m m)) base tr tb G n (i + 1) (fun j => if j = i then ⟨some ⟨g, 0, none⟩, m, Z⟩ else H j) (.slice none 0 0) 0 [] ∧ w.grownBy (w.setCell ⟨G, i, none⟩ (.slice (some ⟨g, 0, none⟩) m m)) (some G) := by
  have st := h.top.store i (.slice (some ⟨g, 0, none⟩) m m)
  have hZ : Z.length = m := by have := h.cur.1; rw [u8s_len] at this; omega
  obtain ⟨ao, cp, hv, hR, _, k1, k2⟩ := own_dataK h.cur
  cases hv
  have hne : g ≠ G := fun e => h.cne (by rw [e]; rfl)
  refine ⟨⟨st.1.congr fun j _ => ?_, fun j hj => ?_, fun j hj a hA => ?_, World.ownsRow_nil _ _ _ _, (fun e => by cases e), fun j hj a hA e => by cases e⟩, st.2⟩
  · by_cases h1 : j = i
    · rw [if_pos h1, if_pos (by omega), if_pos h1]
      unfold Hd.v
      simp only
      rw [hZ]
    · rw [if_neg h1]
      by_cases h2 : j < i
      · rw [if_pos h2, if_pos (by omega), if_neg h1]
      · rw [if_neg h2, if_neg h1, if_neg (by omega)]
        split <;> rfl
  · by_cases h1 : j = i
    · simp only [if_pos h1]
      exact ⟨(fun e => by cases e), by simp only; omega, by simp only; omega, hR.grown st.2 (fun a hA e => by cases hA; injection e with e; exact hne e), hz⟩
    · simp only [if_neg h1]
      exact (h.done j (by omega)).grown st.2 fun a hA e => by injection e with e; exact h.dne j (by omega) a hA e
  · by_cases h1 : j = i
    · simp only [if_pos h1] at hA
      cases hA
      exact hne
    · simp only [if_neg h1] at hA
      exact h.dne j (by omega) a hA
/-- 'out[i] = row': row i is laid as it is. -/
theorem Rag.put {w : World} {base tr tb G n i : Nat} {H : Nat → Hd} {x : Hd} (h : Rag w base tr tb G n i H (.slice none 0 0) 0 []) (hx : RowOk w x) (hne : ∀ a, x.A = some a → a.block ≠ G) :
    Rag (w.setCell ⟨G, i, none⟩ x.v) base tr tb G n (i + 1) (fun j => if j = i then x else H j) (.slice none 0 0) 0 [] ∧ w.grownBy (w.setCell ⟨G, i, none⟩ x.v) (some G) := by
  have st := h.top.store i x.v
  refine ⟨⟨st.1.congr fun j _ => ?_, fun j hj => ?_, fun j hj a hA => ?_, World.ownsRow_nil _ _ _ _, (fun e => by cases e), fun j hj a hA e => by cases e⟩, st.2⟩
  · by_cases h1 : j = i
    · rw [if_pos h1, if_pos (by omega), if_pos h1]
    · rw [if_neg h1]
      by_cases h2 : j < i
      · rw [if_pos h2, if_pos (by omega), if_neg h1]
      · rw [if_neg h2, if_neg h1, if_neg (by omega)]
        split <;> rfl
  · by_cases h1 : j = i
    · simp only [if_pos h1]
      exact hx.grown st.2 fun a hA e => by injection e with e; exact hne a hA e
    · simp only [if_neg h1]
      exact (h.done j (by omega)).grown st.2 fun a hA e => by injection e with e; exact h.dne j (by omega) a hA e
  · by_cases h1 : j = i
    · simp only [if_pos h1] at hA
      exact hne a hA
    · simp only [if_neg h1] at hA
      exact h.dne j (by omega) a hA
theorem Rag.storeBelow {w w0 : World} {base tr tb G n i k : Nat} {H : Nat → Hd} {v : Value} {xs : List Value} (h : Rag w base tr tb G n i H v k xs) (hb : Below base w0 w) (hs : base ≤ w0.heap.size) (j : Nat) (u : Value) : Below base w0 (w.setCell ⟨G, j, none⟩ u) :=
  h.top.belowStore hb hs j u
theorem Rag.frozen {w : World} {base tr tb G n i k : Nat} {H : Nat → Hd} {v : Value} {xs : List Value} (h : Rag w base tr tb G n i H v k xs) : w.frozen? ⟨G, i, none⟩ = false := h.top.frozen i
/-- All rows are done. -/
theorem Rag.tab {w : World} {base tr tb G n k : Nat} {H : Nat → Hd} {v : Value} {xs : List Value} (h : Rag w base tr tb G n n H v k xs) : TabIn w (some ⟨G, 0, none⟩) n ((List.range n).map H) := by
  refine ⟨by simp, by have := h.top.caps; omega, ?_, fun hd hh => ?_⟩
  · have h1 := h.top.reads
    have e : rowF n (fun j => if j < n then (H j).v else if j = n then v else .slice none 0 0) = ((List.range n).map H).map Hd.v := by
      unfold rowF
      rw [List.map_map]
      refine List.map_congr_left fun j hj => ?_
      rw [if_pos (List.mem_range.1 hj)]
      rfl
    rwa [e] at h1
  · obtain ⟨j, hj, rfl⟩ := List.mem_map.1 hh
    exact h.done j (List.mem_range.1 hj)
end Go.Proofs.Ytgdcmebhopjfaaa
