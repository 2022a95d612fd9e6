/- Rows of the call's own, told by a function of the place. Laws over whatever program. -/
import Derived.Test.YtioecklnijhjgaaPlM1
import Derived.Laws.OwnMore
import Derived.Deep.AppendLies
import Derived.ChangeSlices
import Derived.SliceStrings
set_option linter.unusedVariables false
set_option linter.unusedSimpArgs false
namespace Go.Proofs.Ytioecklnijhjgaa
open Go.RowKit

theorem dr3 (w : World) (a b c : Nat) : ∃ k, ((w.drewN a).drewN b).drewN c = w.drewN k := ⟨a + b + c, by rw [World.drewN_drewN, World.drewN_drewN, Nat.add_assoc]⟩
def rowF (n : Nat) (f : Nat → Value) : List Value := (List.range n).map f
theorem rowF_length (n : Nat) (f : Nat → Value) : (rowF n f).length = n := by simp [rowF]
theorem rowF_get {n : Nat} (f : Nat → Value) {j : Nat} (h : j < n) : (rowF n f)[j]? = some (f j) := by simp [rowF, h]
theorem rowF_congr {n : Nat} {f g : Nat → Value} (h : ∀ j, j < n → f j = g j) : rowF n f = rowF n g :=
  List.map_congr_left fun j hj => h j (List.mem_range.1 hj)
theorem rowF_set {n i : Nat} (f : Nat → Value) (u : Value) : (rowF n f).set i u = rowF n (fun j => if j = i then u else f j) := by
  apply List.ext_getElem?
  intro j
  rw [List.getElem?_set]
  by_cases h : j < n
  · rw [rowF_get _ h, rowF_get _ h, rowF_length]
    by_cases hij : i = j
    · subst hij; rw [if_pos rfl, if_pos h, if_pos rfl]
    · rw [if_neg hij, if_neg (fun h => hij h.symm)]
  · rw [List.getElem?_eq_none (by rw [rowF_length]; omega), List.getElem?_eq_none (by rw [rowF_length]; omega), rowF_length]
    split
    · rw [if_neg (by omega)]
    · rfl
theorem rowF_succ (n : Nat) (f : Nat → Value) : rowF (n + 1) f = rowF n f ++ [f n] := by simp [rowF, List.range_succ]
theorem rowF_zero (f : Nat → Value) : rowF 0 f = [] := rfl
theorem replicate_rowF (n : Nat) (z : Value) : List.replicate n z = rowF n (fun _ => z) := by
  apply List.ext_getElem?
  intro j
  by_cases h : j < n
  · rw [rowF_get _ h]; simp [h]
  · rw [List.getElem?_eq_none (by simp; omega), List.getElem?_eq_none (by rw [rowF_length]; omega)]
theorem rowF_one {n : Nat} {f : Nat → Value} (h : ∀ j, (f j).oneCell' = true) : ∀ u ∈ rowF n f, u.oneCell' = true := by
  intro u hu
  obtain ⟨j, _, rfl⟩ := List.mem_map.1 hu
  exact h j
theorem map_rowF {α : Type} (l : List α) (g : α → Value) (d : α) : l.map g = rowF l.length (fun j => g (l.getD j d)) := by
  apply List.ext_getElem?
  intro j
  by_cases h : j < l.length
  · rw [rowF_get _ h]; simp [h]
  · rw [List.getElem?_eq_none (by simp; omega), List.getElem?_eq_none (by rw [rowF_length]; omega)]

/-- A row of one-cell elements at the head of block g: n places, told by f. -/
def Own (w : World) (base e g n cap : Nat) (f : Nat → Value) : Prop := w.ownsRow base e 1 (.slice (some ⟨g, 0, none⟩) n cap) n (rowF n f)
theorem Own.cell {w : World} {base e g n cap : Nat} {f : Nat → Value} (h : Own w base e g n cap f) {i : Nat} (hi : i < n) : w.cell? ⟨g, i, none⟩ = some (f i) := by
  have h1 := World.ownsRow.cellAt (g := g) (cap := cap) (n := n) h i (by omega)
  rw [h1, rowF_get f hi]
theorem Own.frozen {w : World} {base e g n cap : Nat} {f : Nat → Value} (h : Own w base e g n cap f) (i : Nat) : w.frozen? ⟨g, i, none⟩ = false := World.ownsRow.frozenAt h i
theorem Own.store {w : World} {base e g n cap : Nat} {f : Nat → Value} (h : Own w base e g n cap f) (i : Nat) (u : Value) :
    Own (w.setCell ⟨g, i, none⟩ u) base e g n cap (fun j => if j = i then u else f j) ∧ w.grownBy (w.setCell ⟨g, i, none⟩ u) (some g) := by
  have h1 := World.ownsRow.stored h i u
  refine ⟨?_, h1.2⟩
  have h2 := h1.1
  rw [rowF_set] at h2
  exact h2
theorem Own.congr {w : World} {base e g n cap : Nat} {f f' : Nat → Value} (h : Own w base e g n cap f) (hf : ∀ j, j < n → f j = f' j) : Own w base e g n cap f' := by
  unfold Own at h ⊢
  rwa [rowF_congr hf] at h
theorem Own.lt {w : World} {base e g n cap : Nat} {f : Nat → Value} (h : Own w base e g n cap f) : base ≤ g ∧ g < w.heap.size := World.ownsRow.lt h g rfl
theorem Own.below {w w' : World} {base e g n cap : Nat} {f : Nat → Value} (h : Own w base e g n cap f) (hb : Below w.heap.size w w') : Own w' base e g n cap f := own_below h hb
theorem Own.drewN {w : World} {base e g n cap : Nat} {f : Nat → Value} (h : Own w base e g n cap f) (k : Nat) : Own (w.drewN k) base e g n cap f := h.below (below_dr _ _ _)
theorem Own.reads {w : World} {base e g n cap : Nat} {f : Nat → Value} (h : Own w base e g n cap f) : Reads w (some ⟨g, 0, none⟩) (rowF n f) := by
  obtain ⟨ao, cp, hv, hR, _, _⟩ := own_reads h
  cases hv; exact hR
theorem Own.kept {w w' : World} {base e g n cap : Nat} {f : Nat → Value} {r : Nat} (h : Own w base e g n cap f) (hg : w.grownBy w' (some r)) (hne : g ≠ r) : Own w' base e g n cap f :=
  World.ownsRow.kept h hg (.inr fun h => hne (by injection h))
/-- What a store into an own row leaves below the row's base. -/
theorem Own.belowStore {w w0 : World} {base e g n cap : Nat} {f : Nat → Value} (h : Own w base e g n cap f) (hb : Below base w0 w) (hs : base ≤ w0.heap.size) (i : Nat) (u : Value) : Below base w0 (w.setCell ⟨g, i, none⟩ u) :=
  hb.trans ((Below.refl base w).grown (h.store i u).2 (Nat.le_trans hs hb.size) (fun k hk => by cases hk; exact h.lt.1))
/-- A row that is written out: '[]T{x, ..}' of one-cell elements. -/
theorem own_lit (w : World) (base e : Nat) (xs : List Value) (hb : base ≤ w.heap.size) (hm : xs.length ≤ maxLen) :
    (w.alloc (.cells xs.toArray e)).ownsRow base e 1 (.slice (some ⟨w.heap.size, 0, none⟩) xs.length xs.length) xs.length xs :=
  ⟨by simp, .inr ⟨w.heap.size, xs.length, xs.toArray, rfl, hb, heap_alloc_new w _, Nat.le_refl _, hm, by simp, by simp⟩⟩
theorem own_form {w : World} {base e size : Nat} {v : Value} {n : Nat} {xs : List Value} (h : w.ownsRow base e size v n xs) (hx : xs ≠ []) : ∃ g cap, v = .slice (some ⟨g, 0, none⟩) n cap := by
  rcases h.2 with ⟨_, hnil⟩ | ⟨g, cap, cur, rfl, _⟩
  · exact absurd (List.eq_nil_of_length_eq_zero (by rw [h.1, hnil, Nat.zero_mul])) hx
  · exact ⟨g, cap, rfl⟩
/-- 'make([]T, n)' of one-cell elements. -/
theorem make_own {P : Program} {w : World} {ops : Array Oper} {rest : List Oper} {o : Oper} {a : Act} {Q : Exit → Act → World → Prop}
    (hg : o.guard = none) (l c : Operand) (t : TypeId) (hop : o.op = Op.makeSlice t l c)
    (base : Nat) (e : TypeId) (z : Value) (bytes : Nat) (h1 : P.underlying t = some (.slice e)) (hE : ElemRow P e z 1 bytes) (hzc : z.cells = #[z])
    (kl kc : IntKind) (L C : Int) (n : Nat) (hl : a.eval l = .int kl L) (hc : a.eval c = .int kc C) (hL : L = (n : Int)) (hC : C = (n : Int)) (b2 : bytes * n ≤ 281474976710656) (b3 : n ≤ maxLen) (b4 : base ≤ w.heap.size)
    (hK : ∀ w', Own w' base e w.heap.size n n (fun _ => z) → w.grownBy w' none → wpList P ops Q rest (a.put o.dst (.slice (some ⟨w.heap.size, 0, none⟩) n n)) w') :
    wpList P ops Q (o :: rest) a w := by
  refine make_len hg l c t hop base e z 1 bytes h1 hE kl kc L C n hl hc hL hC b2 b3 b4 fun w' hown hgr => hK w' ?_ hgr
  rw [hzc, Nat.mul_one, toList_madeCells_one, replicate_rowF] at hown
  exact hown
/-- 'append(s, x)' of one cell at a step of a region that draws its order; W is what has become of w0 with the new cell behind it. -/
theorem step_app1 {P : Program} {W : World} {ops : Array Oper} {o : Oper} {a : Act} {K : Act → World → Prop} {Q : Exit → Act → World → Prop} {E : Prop} (hgd : o.guard = none) (s x : Operand) (t : TypeId)
    (ho : o.op = .call { callee := .builtin .append, args := #[s, x], argTypes := #[t, t] })
    (base : Nat) (e : TypeId) (z : Value) (bytes : Nat) (ht : P.underlying t = some (.slice e)) (hE : ElemRow P e z 1 bytes)
    (v : Value) (n : Nat) (xs : List Value) (hs : a.eval s = v) (w0 : World) (hown : w0.ownsRow base e 1 v n xs)
    (u : Value) (hx : a.eval x = .slice (some ⟨w0.heap.size, 0, none⟩) 1 1) (h1 : u.oneCell' = true)
    (hW : Below (w0.heap.size + 1) (w0.alloc (.cells #[u] e)) W) (hsz : W.heap.size = w0.heap.size + 1)
    (h63 : n + 1 ≤ maxLen) (hbytes : (n + 1) * bytes ≤ 140737488355328) (hbase : base ≤ w0.heap.size)
    (h : ∀ g cap w', w'.ownsRow base e 1 (.slice (some ⟨g, 0, none⟩) (n + 1) cap) (n + 1) (xs ++ [u]) → (w0.alloc (.cells #[u] e)).grownBy w' v.ownBlock → Below base w0 w' →
      (v.ownBlock = some g ∨ g = w0.heap.size + 1) → g < w'.heap.size → K (a.put o.dst (.slice (some ⟨g, 0, none⟩) (n + 1) cap)) w') :
    if Region.wanted o (yielded ops a.tmps) = true then Oper.wp P o a W K Q else E := by
  obtain ⟨i, hi, hz, hsize, hby, hzs, hsz1⟩ := hE
  have hW2 : Below (w0.alloc (.cells #[u] e)).heap.size (w0.alloc (.cells #[u] e)) W := by rw [World.size_alloc]; exact hW
  have hnb : W.heap[w0.heap.size]? = some (.cells #[u] e) := by rw [hW.block _ (by omega)]; exact heap_alloc_new w0 _
  refine step_append_lies W hgd s x t ho base e i z 1 bytes ht hi hz hsize hby hzs hsz1 v n xs hs (own_below (hown.alloc _) hW2) ⟨w0.heap.size, 0, none⟩ 1 1 [u] hx (by simp) (World.news_of_block hnb) (by intro q hq; simp at hq; subst hq; exact h1) (by omega) h63 hbytes (by omega) (w0.heap.size + 1) hsz ?_
  intro g cap w' hown' hgr hat hlt
  have hgr2 : (w0.alloc (.cells #[u] e)).grownBy w' v.ownBlock := ⟨hgr.os.trans hW.os, hgr.tape.trans hW.tape, hgr.output.trans hW.output, by rw [World.size_alloc]; have := hgr.size; omega, fun k hk hne => by
    rw [World.size_alloc] at hk
    rw [hgr.block k (by omega) hne, hW.block k hk]⟩
  exact h g cap w' hown' hgr2 (((Below.refl base w0).alloc hbase _).grown hgr2 (by rw [World.size_alloc]; omega) fun k hk => (hown.lt k hk).1) hat hlt
end Go.Proofs.Ytioecklnijhjgaa
namespace Go.Proofs.Ytioecklnijhjgaa
open Go.RowKit

def IntsIn (k : IntKind) (w : World) (ao : Option Addr) (len : Nat) (zs : List Int) : Prop :=
  zs.length = len ∧ len ≤ 9223372036854775807 ∧ (∀ z ∈ zs, (Lit.int k z).wf = true) ∧ Reads w ao (zs.map (Value.int k))
theorem intsIn_nil (k : IntKind) (w : World) : IntsIn k w none 0 [] := ⟨rfl, by omega, by simp, Reads.nil _ _⟩
theorem addr_of_cell {w : World} {a : Addr} {v : Value} (h : w.cell? a = some v) : a = ⟨a.block, a.off, none⟩ := by
  obtain ⟨b, o, s⟩ := a
  cases s with
  | none => rfl
  | some s => unfold World.cell? at h; split at h <;> simp at h
theorem reads_of {w : World} {a : Addr} {xs : List Value} (h : ∀ (i : Nat) (u : Value), xs[i]? = some u → w.cell? (a.add i) = some u) : Reads w (some a) xs := by
  intro j u hu
  have h0 : 0 < xs.length := by have := (List.getElem?_eq_some_iff.1 hu).1; omega
  have h1 := h 0 _ (List.getElem?_eq_getElem h0)
  have e : a.add 0 = a := rfl
  rw [e] at h1
  have ha := addr_of_cell h1
  have h2 := h j u hu
  rw [ha, Addr.add_lit] at h2
  exact ⟨a.block, a.off, by rw [← ha], h2⟩
theorem intsIn_of {k : IntKind} {w : World} {a : Addr} {len cap : Nat} {zs : List Int} (hl : len ≤ cap) (hm : cap ≤ maxLen) (hz : zs.length = cap)
    (hc : ∀ i, i < zs.length → w.cell? (a.add i) = some (.int k (zs.getD i 0))) (hw : ∀ n ∈ zs, (Lit.int k n).wf = true) : IntsIn k w (some a) len (zs.take len) := by
  unfold maxLen at hm
  refine ⟨by rw [List.length_take]; omega, by omega, fun z hz2 => hw z (List.mem_of_mem_take hz2), reads_of fun i u hu => ?_⟩
  rw [List.getElem?_map, List.getElem?_take] at hu
  split at hu
  · rename_i hi
    have hi2 : i < zs.length := by omega
    rw [List.getElem?_eq_getElem hi2] at hu
    simp only [Option.map_some, Option.some.injEq] at hu
    rw [hc i hi2, ← hu, List.getD_eq_getElem?_getD, List.getElem?_eq_getElem hi2]; rfl
  · simp at hu
def StrsIn (w : World) (ao : Option Addr) (len : Nat) (ss : List ByteArray) : Prop :=
  ss.length = len ∧ len ≤ 9223372036854775807 ∧ (∀ s ∈ ss, s.size ≤ 9223372036854775807) ∧ Reads w ao (ss.map Value.string)
theorem strsIn_nil (w : World) : StrsIn w none 0 [] := ⟨rfl, by omega, by simp, Reads.nil _ _⟩
theorem strsIn_of {w : World} {a : Addr} {len cap : Nat} {ss : List ByteArray} (hl : len ≤ cap) (hm : cap ≤ maxLen) (hz : ss.length = cap)
    (hc : ∀ i, i < ss.length → w.cell? (a.add i) = some (.string (ss.getD i ByteArray.empty))) (hw : ∀ s ∈ ss, s.size ≤ maxLen) : StrsIn w (some a) len (ss.take len) := by
  unfold maxLen at hm hw
  refine ⟨by rw [List.length_take]; omega, by omega, fun z hz2 => hw z (List.mem_of_mem_take hz2), reads_of fun i u hu => ?_⟩
  rw [List.getElem?_map, List.getElem?_take] at hu
  split at hu
  · rename_i hi
    have hi2 : i < ss.length := by omega
    rw [List.getElem?_eq_getElem hi2] at hu
    simp only [Option.map_some, Option.some.injEq] at hu
    rw [hc i hi2, ← hu, List.getD_eq_getElem?_getD, List.getElem?_eq_getElem hi2]; rfl
  · simp at hu
/-- The capacity of a slice that came in. -/
def CapOk (ao : Option Addr) (len cap : Nat) : Prop := (ao = none → len = 0 ∧ cap = 0) ∧ len ≤ cap ∧ cap ≤ 9223372036854775807
theorem u8_wf {a : Int} (h : (Lit.int .u8 a).wf = true) : 0 ≤ a ∧ a ≤ 255 := by
  simpa [Lit.wf, IntKind.min, IntKind.max, IntKind.signed, IntKind.bits] using h
end Go.Proofs.Ytioecklnijhjgaa
namespace Go.Proofs.Ytioecklnijhjgaa
open Go.RowKit

theorem wpList_wanted {P : Program} {ops : Array Oper} {Q : Exit → Act → World → Prop} {a : Act} {w : World} {rest : List Oper} {o : Oper} (hw : Region.wanted o (yielded ops a.tmps) = true)
    (h : o.wp P a w (wpList P ops Q rest) Q) : wpList P ops Q (o :: rest) a w := by
  unfold wpList
  rw [if_pos hw]
  exact .inl h
theorem wp_app1 {P : Program} {W : World} {o : Oper} {a : Act} {K : Act → World → Prop} {Q : Exit → Act → World → Prop} (s x : Operand) (t : TypeId)
    (ho : o.op = .call { callee := .builtin .append, args := #[s, x], argTypes := #[t, t] })
    (base : Nat) (e : TypeId) (z : Value) (bytes : Nat) (ht : P.underlying t = some (.slice e)) (hE : ElemRow P e z 1 bytes)
    (v : Value) (n : Nat) (xs : List Value) (hs : a.eval s = v) (w0 : World) (hown : w0.ownsRow base e 1 v n xs)
    (u : Value) (hx : a.eval x = .slice (some ⟨w0.heap.size, 0, none⟩) 1 1) (h1 : u.oneCell' = true)
    (hW : Below (w0.heap.size + 1) (w0.alloc (.cells #[u] e)) W) (hsz : W.heap.size = w0.heap.size + 1)
    (h63 : n + 1 ≤ maxLen) (hbytes : (n + 1) * bytes ≤ 140737488355328) (hbase : base ≤ w0.heap.size)
    (h : ∀ g cap w', w'.ownsRow base e 1 (.slice (some ⟨g, 0, none⟩) (n + 1) cap) (n + 1) (xs ++ [u]) → (w0.alloc (.cells #[u] e)).grownBy w' v.ownBlock → Below base w0 w' →
      (v.ownBlock = some g ∨ g = w0.heap.size + 1) → g < w'.heap.size → K (a.put o.dst (.slice (some ⟨g, 0, none⟩) (n + 1) cap)) w') :
    Oper.wp P o a W K Q := by
  obtain ⟨i, hi, hz, hsize, hby, hzs, hsz1⟩ := hE
  have hW2 : Below (w0.alloc (.cells #[u] e)).heap.size (w0.alloc (.cells #[u] e)) W := by rw [World.size_alloc]; exact hW
  have hnb : W.heap[w0.heap.size]? = some (.cells #[u] e) := by rw [hW.block _ (by omega)]; exact heap_alloc_new w0 _
  refine wp_append_lies W s x t ho base e i z 1 bytes ht hi hz hsize hby hzs hsz1 v n xs hs (own_below (hown.alloc _) hW2) ⟨w0.heap.size, 0, none⟩ 1 1 [u] hx (by simp) (World.news_of_block hnb) (by intro q hq; simp at hq; subst hq; exact h1) (by omega) h63 hbytes (by omega) (w0.heap.size + 1) hsz ?_
  intro g cap w' hown' hgr hat hlt
  have hgr2 : (w0.alloc (.cells #[u] e)).grownBy w' v.ownBlock := ⟨hgr.os.trans hW.os, hgr.tape.trans hW.tape, hgr.output.trans hW.output, by rw [World.size_alloc]; have := hgr.size; omega, fun k hk hne => by
    rw [World.size_alloc] at hk
    rw [hgr.block k (by omega) hne, hW.block k hk]⟩
  exact h g cap w' hown' hgr2 (((Below.refl base w0).alloc hbase _).grown hgr2 (by rw [World.size_alloc]; omega) fun k hk => (hown.lt k hk).1) hat hlt
/-- 'append(s, x)' of one cell where the operation is guarded, and wanted. -/
theorem app_guarded {P : Program} {w : World} {ops : Array Oper} {rest : List Oper} {o : Oper} {a : Act} {Q : Exit → Act → World → Prop} (hw : Region.wanted o (yielded ops a.tmps) = true) (s x : Operand) (t : TypeId)
    (ho : o.op = .call { callee := .builtin .append, args := #[s, x], argTypes := #[t, t] })
    (base : Nat) (e : TypeId) (z : Value) (bytes : Nat) (ht : P.underlying t = some (.slice e)) (hE : ElemRow P e z 1 bytes)
    (v : Value) (n : Nat) (xs : List Value) (hs : a.eval s = v) (hown : w.ownsRow base e 1 v n xs)
    (u : Value) (hx : a.eval x = .slice (some ⟨w.heap.size, 0, none⟩) 1 1) (h1 : u.oneCell' = true)
    (h63 : n + 1 ≤ maxLen) (hbytes : (n + 1) * bytes ≤ 140737488355328) (hbase : base ≤ w.heap.size)
    (h : ∀ g cap w', w'.ownsRow base e 1 (.slice (some ⟨g, 0, none⟩) (n + 1) cap) (n + 1) (xs ++ [u]) → Below base w w' → wpList P ops Q rest (a.put o.dst (.slice (some ⟨g, 0, none⟩) (n + 1) cap)) w') :
    wpList P ops Q (o :: rest) a (w.alloc (.cells #[u] e)) :=
  wpList_wanted hw (wp_app1 s x t ho base e z bytes ht hE v n xs hs w hown u hx h1 (Below.refl _ _) (by simp) h63 hbytes hbase fun g cap w' h2 _ h4 _ _ => h g cap w' h2 h4)
end Go.Proofs.Ytioecklnijhjgaa
namespace Go.Proofs.Ytioecklnijhjgaa
open Go.RowKit

theorem below_drew1 {B : Nat} {w w' : World} (h : Below B w w') : Below B w w'.drew := below_drewN h 1
theorem heap_new' (w : World) (o : Obj) (k : Nat) (hk : w.heap.size = k) : (w.alloc o).heap[k]? = some o := by subst hk; exact heap_alloc_new w o
theorem heap_drew {w : World} {k : Nat} {b : Obj} (h : w.heap[k]? = some b) : w.drew.heap[k]? = some b := h
theorem heap_drewN {w : World} {n k : Nat} {b : Obj} (h : w.heap[k]? = some b) : (w.drewN n).heap[k]? = some b := h
theorem heap_alloc_old (w : World) (o : Obj) {k : Nat} {b : Obj} (h : w.heap[k]? = some b) : (w.alloc o).heap[k]? = some b := by
  have := (Array.getElem?_eq_some_iff.1 h).1
  show (w.heap.push o)[k]? = _
  rw [Array.getElem?_push, if_neg (by omega)]; exact h
theorem heap_grown_old {w w' : World} {r : Option Nat} {k : Nat} {b : Obj} (hg : w.grownBy w' r) (h : w.heap[k]? = some b) (hne : some k ≠ r) : w'.heap[k]? = some b := by
  rw [hg.block k (Array.getElem?_eq_some_iff.1 h).1 hne]; exact h
theorem ownBlock_ne {w : World} {base e size : Nat} {v : Value} {n : Nat} {xs : List Value} (h : w.ownsRow base e size v n xs) {k : Nat} (hk : w.heap.size ≤ k) : some k ≠ v.ownBlock := by
  intro he
  have := (h.lt k he.symm).2
  omega
theorem step_app_two {P : Program} {W : World} {ops : Array Oper} {o : Oper} {a : Act} {K : Act → World → Prop} {Q : Exit → Act → World → Prop} {E : Prop} (hgd : o.guard = none) (s x : Operand) (t : TypeId)
    (ho : o.op = .call { callee := .builtin .append, args := #[s, x], argTypes := #[t, t] })
    (base : Nat) (e : TypeId) (z : Value) (bytes : Nat) (ht : P.underlying t = some (.slice e)) (hE : ElemRow P e z 1 bytes)
    (v : Value) (n : Nat) (xs : List Value) (hs : a.eval s = v) (w0 : World) (hown : w0.ownsRow base e 1 v n xs)
    (e2 : TypeId) (v2 : Value) (m : Nat) (ys : List Value) (hoth : w0.ownsRow base e2 1 v2 m ys) (hap : Apart v v2)
    (wb : World) (hb : Below base wb w0) (hbs : base ≤ wb.heap.size) (hW : Below w0.heap.size w0 W)
    (q : Nat) (u : Value) (hx : a.eval x = .slice (some ⟨q, 0, none⟩) 1 1) (hq : W.heap[q]? = some (.cells #[u] e)) (h1 : u.oneCell' = true)
    (h63 : n + 1 ≤ maxLen) (hbytes : (n + 1) * bytes ≤ 140737488355328)
    (h : ∀ g cap w', w'.ownsRow base e 1 (.slice (some ⟨g, 0, none⟩) (n + 1) cap) (n + 1) (xs ++ [u]) → w'.ownsRow base e2 1 v2 m ys → Apart (.slice (some ⟨g, 0, none⟩) (n + 1) cap) v2 → Below base wb w' →
      W.grownBy w' v.ownBlock → K (a.put o.dst (.slice (some ⟨g, 0, none⟩) (n + 1) cap)) w') :
    if Region.wanted o (yielded ops a.tmps) = true then Oper.wp P o a W K Q else E := by
  obtain ⟨i, hi, hz, hsize, hby, hzs, hsz1⟩ := hE
  have hownW := own_below hown hW
  have hothW := own_below hoth hW
  have hbW : Below base wb W := hb.trans (Below.mono hW hb.size |>.mono (by omega))
  refine step_append_lies W hgd s x t ho base e i z 1 bytes ht hi hz hsize hby hzs hsz1 v n xs hs hownW ⟨q, 0, none⟩ 1 1 [u] hx (by simp) (World.news_of_block hq) (by intro q hq; simp at hq; subst hq; exact h1) (by omega) h63 hbytes (Nat.le_trans hbs hbW.size) W.heap.size rfl ?_
  intro g cap w' hown' hgr hat hlt
  refine h g cap w' hown' (hothW.kept hgr ?_) (hap.grow (k := W.heap.size) ?_ fun g hg => (hothW.lt g hg).2) (hbW.grown hgr (Nat.le_trans hbs hbW.size) fun k hk => (hown.lt k hk).1) hgr
  · cases hu : v2.ownBlock with
    | none => exact .inl rfl
    | some g => right; intro hv; exact hap g hv.symm hu
  · rcases hat with h | h
    · exact .inl h.symm
    · right; rw [h]; rfl
end Go.Proofs.Ytioecklnijhjgaa
namespace Go.Proofs.Ytioecklnijhjgaa
open Go.RowKit

theorem heap_cell {W : World} {B : Nat} {cs : Array Value} {t : TypeId} {fr : Nat × Nat} (h : W.heap[B]? = some (.cells cs t fr)) (j : Nat) : W.cell? ⟨B, j, none⟩ = cs[j]? := cell_of_row W B j cs t fr h
theorem heap_frozen {W : World} {B : Nat} {cs : Array Value} {t : TypeId} (h : W.heap[B]? = some (.cells cs t (0, 0))) (j : Nat) : W.frozen? ⟨B, j, none⟩ = false := by simp [World.frozen?, h]
theorem heap_set {W : World} {B j : Nat} {cs : Array Value} {t : TypeId} {fr : Nat × Nat} (v : Value) (h : W.heap[B]? = some (.cells cs t fr)) : (W.setCell ⟨B, j, none⟩ v).heap[B]? = some (.cells (cs.setIfInBounds j v) t fr) := by
  obtain ⟨hlt, hk⟩ := Array.getElem?_eq_some_iff.1 h
  show (W.heap.modify B _)[B]? = _
  rw [Array.getElem?_eq_getElem (by rw [Array.size_modify]; exact hlt), Array.getElem_modify_self, hk]
  rfl
theorem heap_set_far {W : World} {B B' j : Nat} (v : Value) (hne : B ≠ B') : (W.setCell ⟨B, j, none⟩ v).heap[B']? = W.heap[B']? := Below.heap_setCell _ _ _ B' (fun e => hne e.symm)
theorem below_set {n₀ B j : Nat} {A W : World} (h : Below n₀ A W) (hB : n₀ ≤ B) (v : Value) : Below n₀ A (W.setCell ⟨B, j, none⟩ v) := h.setCell (p := ⟨B, j, none⟩) hB v
end Go.Proofs.Ytioecklnijhjgaa
