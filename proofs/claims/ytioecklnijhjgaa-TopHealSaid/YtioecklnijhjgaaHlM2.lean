/- Append onto a slice of the call's own: which block the result lies in. -/
import Derived.Test.YtioecklnijhjgaaMem
import Derived.Laws.OwnMore
import Derived.Deep.AppendLies
namespace Go.Proofs.Ytioecklnijhjgaa
open Go.RowKit

theorem append_block {P : Program} (w : World) (base : Nat) (t ty e : TypeId) (i : TypeInfo) (z : Value) (ht : P.underlying t = some (.slice e)) (hi : P.info? e = some i) (hz : i.zero = some z)
    (v : Value) (n : Nat) (xs : List Value) (hown : w.ownsRow base e i.size v n xs)
    (a : Addr) (m c : Nat) (news : List Value) (hl : news.length = m * i.size) (hnews : ∀ j u, news[j]? = some u → w.cell? (a.add j) = some u) (h1 : ∀ u ∈ news, u.oneCell' = true)
    (hm0 : 0 < m) (h63 : n + m ≤ maxLen) (hbytes : (n + m) * i.bytes ≤ 140737488355328) {v' : Value} {w' : World}
    (hr : (Builtin.append_ #[t, t] ty #[v, .slice (some a) m c]).run P w = .ok v' w') : v'.ownBlock = v.ownBlock ∨ v'.ownBlock = some w.heap.size := by
  have hsmall : n + m ≤ 9223372036854775807 := by simp only [maxLen] at h63; omega
  rcases hown.2 with ⟨rfl, rfl⟩ | ⟨g, cap, cur, rfl, hbg, hg, hnc, hcm, hcs, htake⟩
  · have hr2 := run_append_nil (P := P) w t ty e i z ht hi hz a m c news hl hnews hm0 (by omega) (by have hb := hbytes; simp only [Nat.zero_add] at hb; omega)
    rw [hr2] at hr
    injection hr with e1 e2
    subst e1
    exact .inr rfl
  · by_cases hroom : n + m ≤ cap
    · have hfit : n * i.size + news.length ≤ cur.size := by rw [hl, hcs, ← Nat.add_mul]; exact Nat.mul_le_mul_right _ hroom
      have hr2 := run_append_room (P := P) w t ty e i ht hi g n cap cur hg a m c news hl hnews h1 hroom hfit
      rw [hr2] at hr
      injection hr with e1 e2
      subst e1
      exact .inl rfl
    · have holds : ∀ j u, xs[j]? = some u → w.cell? ((⟨g, 0, none⟩ : Addr).add j) = some u := hown.cells (g := g) rfl
      have hr2 := run_append_grow (P := P) w t ty e i z ht hi hz ⟨g, 0, none⟩ n cap xs hown.1 holds a m c news hl hnews (by omega) (by omega) (growslice_fits (by omega) hbytes)
      rw [hr2] at hr
      injection hr with e1 e2
      subst e1
      exact .inr rfl

/-- 'append(s, x)' of one new element, and where the result lies. -/
theorem app_one2 {P : Program} {w : World} {ops : Array Oper} {rest : List Oper} {o : Oper} {a : Act} {Q : Exit → Act → World → Prop} (hgd : o.guard = none) (s x : Operand) (t : TypeId)
    (ho : o.op = .call { callee := .builtin .append, args := #[s, x], argTypes := #[t, t] })
    (base : Nat) (e : TypeId) (z : Value) (size bytes : Nat) (ht : P.underlying t = some (.slice e)) (hE : ElemRow P e z size bytes)
    (v : Value) (n : Nat) (xs : List Value) (hs : a.eval s = v) (hown : w.ownsRow base e size v n xs)
    (news : List Value) (hx : a.eval x = .slice (some ⟨w.heap.size, 0, none⟩) 1 1) (hl : news.length = size) (h1 : ∀ u ∈ news, u.oneCell' = true)
    (h63 : n + 1 ≤ maxLen) (hbytes : (n + 1) * bytes ≤ 140737488355328) (hbase : base ≤ w.heap.size)
    (h : ∀ v' w', w'.ownsRow base e size v' (n + 1) (xs ++ news) → (w.alloc (.cells news.toArray e)).grownBy w' v.ownBlock → Below base w w' →
      (v'.ownBlock = v.ownBlock ∨ v'.ownBlock = some (w.heap.size + 1)) → wpList P ops Q rest (a.put o.dst v') w') :
    wpList P ops Q (o :: rest) a (w.alloc (.cells news.toArray e)) := by
  obtain ⟨i, hi, hz, hsize, hby, hzs, hsz⟩ := hE
  subst hsize
  subst hby
  have hnews : ∀ j u, news[j]? = some u → (w.alloc (.cells news.toArray e)).cell? ((⟨w.heap.size, 0, none⟩ : Addr).add j) = some u := by
    intro j u hu
    obtain ⟨b, o2, ha, hc⟩ := reads_new w news.toArray e j u (by simpa using hu)
    simp only [Option.some.injEq, Addr.mk.injEq, and_true] at ha
    obtain ⟨rfl, rfl⟩ := ha
    rw [Addr.add_lit]; exact hc
  refine wpList_plain hgd fun K hK => ?_
  obtain ⟨v', w', hr, h2, h3, _⟩ := run_append_own (P := P) (w.alloc (.cells news.toArray e)) base t o.type e i z i.size i.bytes ht hi hz rfl rfl hzs hsz v n xs (hown.alloc _) ⟨w.heap.size, 0, none⟩ 1 1 news (by omega) hnews h1 h63 hbytes (by rw [World.size_alloc]; omega)
  have hb := append_block (P := P) (w.alloc (.cells news.toArray e)) base t o.type e i z ht hi hz v n xs (hown.alloc _) ⟨w.heap.size, 0, none⟩ 1 1 news (by omega) hnews h1 (by omega) h63 hbytes hr
  rw [World.size_alloc] at hb
  unfold Oper.wp execOp
  simp only [ho, resolve, invoke, builtin, Sem.run_bind, Sem.run_pure, Result.andThen_ok, List.map_toArray, List.map_cons, List.map_nil, hs, hx, hr]
  exact hK _ _ (h v' w' h2 h3 (((Below.refl base w).alloc hbase _).grown h3 (by rw [World.size_alloc]; omega) fun k hk => (hown.lt k hk).1) hb)

/-- Two slices of the call's own lie in different blocks. -/
def Apart (v u : Value) : Prop := ∀ g, v.ownBlock = some g → u.ownBlock ≠ some g
theorem Apart.grow {v u v' : Value} {k : Nat} (h : Apart v u) (hb : v'.ownBlock = v.ownBlock ∨ v'.ownBlock = some k) (hk : ∀ g, u.ownBlock = some g → g < k) : Apart v' u := by
  intro g hg hu
  rcases hb with hb | hb
  · exact h g (by rw [← hb]; exact hg) hu
  · rw [hb] at hg; injection hg with hg; have := hk g hu; omega
theorem kept_apart {w w' : World} {base e size : Nat} {v u : Value} {n : Nat} {xs : List Value} {o : Obj} (h : w.ownsRow base e size u n xs) (hg : (w.alloc o).grownBy w' v.ownBlock) (ha : Apart v u) : w'.ownsRow base e size u n xs := by
  refine (h.alloc o).kept hg ?_
  cases hu : u.ownBlock with
  | none => exact .inl rfl
  | some g =>
    right
    intro hv
    exact ha g hv.symm hu
theorem Apart.symm {v u : Value} (h : Apart v u) : Apart u v := fun g hu hv => h g hv hu

end Go.Proofs.Ytioecklnijhjgaa
namespace Go.Proofs.Ytioecklnijhjgaa
open Go.RowKit

theorem dr3 (w : World) (a b c : Nat) : ∃ k, ((w.drewN a).drewN b).drewN c = w.drewN k := ⟨a + b + c, by rw [World.drewN_drewN, World.drewN_drewN, Nat.add_assoc]⟩
def rowF (n : Nat) (f : Nat → Value) : List Value := (List.range n).map f
theorem rowF_length (n : Nat) (f : Nat → Value) : (rowF n f).length = n := by simp [rowF]
theorem rowF_get {n : Nat} (f : Nat → Value) {j : Nat} (h : j < n) : (rowF n f)[j]? = some (f j) := by simp [rowF, h]
theorem rowF_congr {n : Nat} {f g : Nat → Value} (h : ∀ j, j < n → f j = g j) : rowF n f = rowF n g :=
  List.map_congr_left fun j hj => h j (List.mem_range.1 hj)
theorem rowF_set {n i : Nat} (f : Nat → Value) (u : Value) : (rowF n f).set i u = rowF n (fun j => if j = i then u else f j) := by
  apply List.ext_getElem?
  intro j
  rw [List.getElem?_set]
  by_cases h : j < n
  · rw [rowF_get _ h, rowF_get _ h, rowF_length]
    by_cases hij : i = j
    · subst hij; rw [if_pos rfl, if_pos h, if_pos rfl]
    · rw [if_neg hij, if_neg (fun h => hij h.symm)]
  · rw [List.getElem?_eq_none (by rw [rowF_length]; omega), List.getElem?_eq_none (by rw [rowF_length]; omega), rowF_length]
    split
    · rw [if_neg (by omega)]
    · rfl
theorem rowF_succ (n : Nat) (f : Nat → Value) : rowF (n + 1) f = rowF n f ++ [f n] := by simp [rowF, List.range_succ]
theorem rowF_zero (f : Nat → Value) : rowF 0 f = [] := rfl
theorem replicate_rowF (n : Nat) (z : Value) : List.replicate n z = rowF n (fun _ => z) := by
  apply List.ext_getElem?
  intro j
  by_cases h : j < n
  · rw [rowF_get _ h]; simp [h]
  · rw [List.getElem?_eq_none (by simp; omega), List.getElem?_eq_none (by rw [rowF_length]; omega)]
theorem rowF_one {n : Nat} {f : Nat → Value} (h : ∀ j, (f j).oneCell' = true) : ∀ u ∈ rowF n f, u.oneCell' = true := by
  intro u hu
  obtain ⟨j, _, rfl⟩ := List.mem_map.1 hu
  exact h j
theorem map_rowF {α : Type} (l : List α) (g : α → Value) (d : α) : l.map g = rowF l.length (fun j => g (l.getD j d)) := by
  apply List.ext_getElem?
  intro j
  by_cases h : j < l.length
  · rw [rowF_get _ h]; simp [h]
  · rw [List.getElem?_eq_none (by simp; omega), List.getElem?_eq_none (by rw [rowF_length]; omega)]

/-- A row of one-cell elements at the head of block g: n places, told by f. -/
def Own (w : World) (base e g n cap : Nat) (f : Nat → Value) : Prop := w.ownsRow base e 1 (.slice (some ⟨g, 0, none⟩) n cap) n (rowF n f)
theorem Own.cell {w : World} {base e g n cap : Nat} {f : Nat → Value} (h : Own w base e g n cap f) {i : Nat} (hi : i < n) : w.cell? ⟨g, i, none⟩ = some (f i) := by
  have h1 := World.ownsRow.cellAt (g := g) (cap := cap) (n := n) h i (by omega)
  rw [h1, rowF_get f hi]
theorem Own.frozen {w : World} {base e g n cap : Nat} {f : Nat → Value} (h : Own w base e g n cap f) (i : Nat) : w.frozen? ⟨g, i, none⟩ = false := World.ownsRow.frozenAt h i
theorem Own.store {w : World} {base e g n cap : Nat} {f : Nat → Value} (h : Own w base e g n cap f) (i : Nat) (u : Value) :
    Own (w.setCell ⟨g, i, none⟩ u) base e g n cap (fun j => if j = i then u else f j) ∧ w.grownBy (w.setCell ⟨g, i, none⟩ u) (some g) := by
  have h1 := World.ownsRow.stored h i u
  refine ⟨?_, h1.2⟩
  have h2 := h1.1
  rw [rowF_set] at h2
  exact h2
theorem Own.congr {w : World} {base e g n cap : Nat} {f f' : Nat → Value} (h : Own w base e g n cap f) (hf : ∀ j, j < n → f j = f' j) : Own w base e g n cap f' := by
  unfold Own at h ⊢
  rwa [rowF_congr hf] at h
theorem Own.lt {w : World} {base e g n cap : Nat} {f : Nat → Value} (h : Own w base e g n cap f) : base ≤ g ∧ g < w.heap.size := World.ownsRow.lt h g rfl
theorem Own.below {w w' : World} {base e g n cap : Nat} {f : Nat → Value} (h : Own w base e g n cap f) (hb : Below w.heap.size w w') : Own w' base e g n cap f := own_below h hb
theorem Own.drewN {w : World} {base e g n cap : Nat} {f : Nat → Value} (h : Own w base e g n cap f) (k : Nat) : Own (w.drewN k) base e g n cap f := h.below (below_dr _ _ _)
theorem Own.reads {w : World} {base e g n cap : Nat} {f : Nat → Value} (h : Own w base e g n cap f) : Reads w (some ⟨g, 0, none⟩) (rowF n f) := by
  obtain ⟨ao, cp, hv, hR, _, _⟩ := own_reads h
  cases hv; exact hR
theorem Own.kept {w w' : World} {base e g n cap : Nat} {f : Nat → Value} {r : Nat} (h : Own w base e g n cap f) (hg : w.grownBy w' (some r)) (hne : g ≠ r) : Own w' base e g n cap f :=
  World.ownsRow.kept h hg (.inr fun h => hne (by injection h))
/-- What a store into an own row leaves below the row's base. -/
theorem Own.belowStore {w w0 : World} {base e g n cap : Nat} {f : Nat → Value} (h : Own w base e g n cap f) (hb : Below base w0 w) (hs : base ≤ w0.heap.size) (i : Nat) (u : Value) : Below base w0 (w.setCell ⟨g, i, none⟩ u) :=
  hb.trans ((Below.refl base w).grown (h.store i u).2 (Nat.le_trans hs hb.size) (fun k hk => by cases hk; exact h.lt.1))
/-- A row that is written out: '[]T{x, ..}' of one-cell elements. -/
theorem own_lit (w : World) (base e : Nat) (xs : List Value) (hb : base ≤ w.heap.size) (hm : xs.length ≤ maxLen) :
    (w.alloc (.cells xs.toArray e)).ownsRow base e 1 (.slice (some ⟨w.heap.size, 0, none⟩) xs.length xs.length) xs.length xs :=
  ⟨by simp, .inr ⟨w.heap.size, xs.length, xs.toArray, rfl, hb, heap_alloc_new w _, Nat.le_refl _, hm, by simp, by simp⟩⟩
theorem own_form {w : World} {base e size : Nat} {v : Value} {n : Nat} {xs : List Value} (h : w.ownsRow base e size v n xs) (hx : xs ≠ []) : ∃ g cap, v = .slice (some ⟨g, 0, none⟩) n cap := by
  rcases h.2 with ⟨_, hnil⟩ | ⟨g, cap, cur, rfl, _⟩
  · exact absurd (List.eq_nil_of_length_eq_zero (by rw [h.1, hnil, Nat.zero_mul])) hx
  · exact ⟨g, cap, rfl⟩
/-- 'make([]T, n)' of one-cell elements. -/
theorem make_own {P : Program} {w : World} {ops : Array Oper} {rest : List Oper} {o : Oper} {a : Act} {Q : Exit → Act → World → Prop}
    (hg : o.guard = none) (l c : Operand) (t : TypeId) (hop : o.op = Op.makeSlice t l c)
    (base : Nat) (e : TypeId) (z : Value) (bytes : Nat) (h1 : P.underlying t = some (.slice e)) (hE : ElemRow P e z 1 bytes) (hzc : z.cells = #[z])
    (kl kc : IntKind) (L C : Int) (n : Nat) (hl : a.eval l = .int kl L) (hc : a.eval c = .int kc C) (hL : L = (n : Int)) (hC : C = (n : Int)) (b2 : bytes * n ≤ 281474976710656) (b3 : n ≤ maxLen) (b4 : base ≤ w.heap.size)
    (hK : ∀ w', Own w' base e w.heap.size n n (fun _ => z) → w.grownBy w' none → wpList P ops Q rest (a.put o.dst (.slice (some ⟨w.heap.size, 0, none⟩) n n)) w') :
    wpList P ops Q (o :: rest) a w := by
  refine make_len hg l c t hop base e z 1 bytes h1 hE kl kc L C n hl hc hL hC b2 b3 b4 fun w' hown hgr => hK w' ?_ hgr
  rw [hzc, Nat.mul_one, toList_madeCells_one, replicate_rowF] at hown
  exact hown
/-- 'append(s, x)' of one cell at a step of a region that draws its order; W is what has become of w0 with the new cell behind it. -/
theorem step_app1 {P : Program} {W : World} {ops : Array Oper} {o : Oper} {a : Act} {K : Act → World → Prop} {Q : Exit → Act → World → Prop} {E : Prop} (hgd : o.guard = none) (s x : Operand) (t : TypeId)
    (ho : o.op = .call { callee := .builtin .append, args := #[s, x], argTypes := #[t, t] })
    (base : Nat) (e : TypeId) (z : Value) (bytes : Nat) (ht : P.underlying t = some (.slice e)) (hE : ElemRow P e z 1 bytes)
    (v : Value) (n : Nat) (xs : List Value) (hs : a.eval s = v) (w0 : World) (hown : w0.ownsRow base e 1 v n xs)
    (u : Value) (hx : a.eval x = .slice (some ⟨w0.heap.size, 0, none⟩) 1 1) (h1 : u.oneCell' = true)
    (hW : Below (w0.heap.size + 1) (w0.alloc (.cells #[u] e)) W) (hsz : W.heap.size = w0.heap.size + 1)
    (h63 : n + 1 ≤ maxLen) (hbytes : (n + 1) * bytes ≤ 140737488355328) (hbase : base ≤ w0.heap.size)
    (h : ∀ g cap w', w'.ownsRow base e 1 (.slice (some ⟨g, 0, none⟩) (n + 1) cap) (n + 1) (xs ++ [u]) → (w0.alloc (.cells #[u] e)).grownBy w' v.ownBlock → Below base w0 w' →
      (v.ownBlock = some g ∨ g = w0.heap.size + 1) → g < w'.heap.size → K (a.put o.dst (.slice (some ⟨g, 0, none⟩) (n + 1) cap)) w') :
    if Region.wanted o (yielded ops a.tmps) = true then Oper.wp P o a W K Q else E := by
  obtain ⟨i, hi, hz, hsize, hby, hzs, hsz1⟩ := hE
  have hW2 : Below (w0.alloc (.cells #[u] e)).heap.size (w0.alloc (.cells #[u] e)) W := by rw [World.size_alloc]; exact hW
  have hnb : W.heap[w0.heap.size]? = some (.cells #[u] e) := by rw [hW.block _ (by omega)]; exact heap_alloc_new w0 _
  refine step_append_lies W hgd s x t ho base e i z 1 bytes ht hi hz hsize hby hzs hsz1 v n xs hs (own_below (hown.alloc _) hW2) ⟨w0.heap.size, 0, none⟩ 1 1 [u] hx (by simp) (World.news_of_block hnb) (by intro q hq; simp at hq; subst hq; exact h1) (by omega) h63 hbytes (by omega) (w0.heap.size + 1) hsz ?_
  intro g cap w' hown' hgr hat hlt
  have hgr2 : (w0.alloc (.cells #[u] e)).grownBy w' v.ownBlock := ⟨hgr.os.trans hW.os, hgr.tape.trans hW.tape, hgr.output.trans hW.output, by rw [World.size_alloc]; have := hgr.size; omega, fun k hk hne => by
    rw [World.size_alloc] at hk
    rw [hgr.block k (by omega) hne, hW.block k hk]⟩
  exact h g cap w' hown' hgr2 (((Below.refl base w0).alloc hbase _).grown hgr2 (by rw [World.size_alloc]; omega) fun k hk => (hown.lt k hk).1) hat hlt
end Go.Proofs.Ytioecklnijhjgaa
