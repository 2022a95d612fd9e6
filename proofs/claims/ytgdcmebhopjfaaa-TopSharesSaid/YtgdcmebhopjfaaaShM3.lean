/- Rows through points over the field of 256 elements: which of the points are taken does not matter, where all fit. -/
import Derived.Test.YtgdcmebhopjfaaaInterp
import Derived.WalkKit
import Derived.WalkSpells
import Derived.WalkLawsBesides
import Derived.Deep.QuietTactic
import Derived.BigQuiet
import Derived.Lib.Hide
import Derived.Handy
import Derived.Laws.AppendOwnNone
import Derived.Test.YtgdcmebhopjfaaaRows
import Derived.Laws.OwnMore
import Derived.Deep.AppendLies
import Derived.ChangeSlices
import Derived.SliceStrings
import Derived.Deep.SlicePairs
import Derived.ChangeArms
namespace Go.Proofs.Ytgdcmebhopjfaaa

/-- Points: places below 256, no two the same. -/
def PtsG (L : List (Nat × Nat)) : Prop := (∀ a ∈ L, a.1 < 256 ∧ a.2 < 256) ∧ (L.map Prod.fst).Nodup
def ptX (L : List (Nat × Nat)) (j : Nat) : GF := gf (L.getD j (0, 0)).1
def ptY (L : List (Nat × Nat)) (j : Nat) : GF := gf (L.getD j (0, 0)).2
/-- The row's value through some points. -/
def rowV (L : List (Nat × Nat)) (x : GF) : GF := lag (ptX L) (ptY L) L.length x
theorem ptX_ne {L : List (Nat × Nat)} (h : PtsG L) : ∀ i j, i < L.length → j < L.length → i ≠ j → ptX L i ≠ ptX L j := by
  intro i j hi hj hij he
  unfold ptX at he
  rw [List.getD_eq_getElem?_getD, List.getD_eq_getElem?_getD, List.getElem?_eq_getElem hi, List.getElem?_eq_getElem hj] at he
  simp only [Option.getD_some] at he
  have h1 := gf_inj (h.1 _ (List.getElem_mem hi)).1 (h.1 _ (List.getElem_mem hj)).1 he
  have h2 := h.2
  rw [List.nodup_iff_pairwise_ne, List.pairwise_map, List.pairwise_iff_getElem] at h2
  rcases Nat.lt_or_ge i j with h3 | h3
  · exact h2 i j hi hj h3 h1
  · exact h2 j i hj hi (by omega) h1.symm
theorem rowV_poly (L : List (Nat × Nat)) : PolyF L.length (rowV L) := lag_poly gfld _ _ _
theorem rowV_at {L : List (Nat × Nat)} (h : PtsG L) {a : Nat × Nat} (ha : a ∈ L) : rowV L (gf a.1) = gf a.2 := by
  obtain ⟨j, hj, he⟩ := List.mem_iff_getElem.1 ha
  have h1 := lag_at gfld (ptX L) (ptY L) hj (ptX_ne h)
  unfold ptX ptY at h1
  rw [List.getD_eq_getElem?_getD, List.getElem?_eq_getElem hj] at h1
  simp only [Option.getD_some] at h1
  rw [he] at h1
  exact h1
/-- A polynomial of so many numbers that fits some points is their row. -/
theorem rowV_uniq {L : List (Nat × Nat)} (h : PtsG L) {f : GF → GF} (hf : PolyF L.length f) (hL : ∀ a ∈ L, f (gf a.1) = gf a.2) (x : GF) : rowV L x = f x := by
  refine lag_uniq gfld hf (ptX L) (ptY L) (ptX_ne h) (fun j hj => ?_) x
  unfold ptX ptY
  rw [List.getD_eq_getElem?_getD, List.getElem?_eq_getElem hj]
  simp only [Option.getD_some]
  exact hL _ (List.getElem_mem hj)
def fits (L P : List (Nat × Nat)) : Prop := ∀ a ∈ P, rowV L (gf a.1) = gf a.2
theorem fits_swap {L M P : List (Nat × Nat)} (hM : PtsG M) (hl : M.length = L.length) (hMP : ∀ a ∈ M, a ∈ P) (h : fits L P) : (∀ x, rowV M x = rowV L x) ∧ fits M P := by
  have h1 : ∀ x, rowV M x = rowV L x := rowV_uniq hM (by rw [hl]; exact rowV_poly L) fun a ha => h a (hMP a ha)
  exact ⟨h1, fun a ha => by rw [h1]; exact h a ha⟩
end Go.Proofs.Ytgdcmebhopjfaaa
namespace Go.Proofs.Ytgdcmebhopjfaaa
open Go.RowKit

theorem ret_int {k : IntKind} {a b : Int} (h : a = b) : Ending.returned (.int k a) = .returned (.int k b) := by rw [h]
theorem ret_bool {a b : Bool} (h : a = b) : Ending.returned (.bool a) = .returned (.bool b) := by rw [h]
theorem quiet_at {P : Program} {f : FuncId} {args : Array Value} {w : World} {a n : Nat} {v : Value}
    (h : ∀ W : World, Calls P f args W fun e w' => e = .returned v ∧ ∃ m, w' = W.drewN m) :
    Calls P f args (w.drewN (a + n)) fun e w'' => e = .returned v ∧ ∃ m, w'' = w.drewN (a + m) :=
  (h _).mono fun _ _ ⟨he, m, hm⟩ => ⟨he, n + m, by rw [hm, World.drewN_drewN, Nat.add_assoc]⟩
theorem quiet_on {P : Program} {f : FuncId} {args : Array Value} {w : World} {n : Nat} {v : Value}
    (h : ∀ W : World, Calls P f args W fun e w' => e = .returned v ∧ ∃ m, w' = W.drewN m) :
    Calls P f args (w.drewN n) fun e w'' => e = .returned v ∧ ∃ m, w'' = w.drewN m :=
  (h _).mono fun _ _ ⟨he, m, hm⟩ => ⟨he, n + m, by rw [hm, World.drewN_drewN]⟩
theorem dr2 (w : World) (n m : Nat) : ∃ k, (w.drewN n).drewN m = w.drewN k := ⟨_, World.drewN_drewN ..⟩
theorem dr0 (w : World) : ∃ k, w = w.drewN k := ⟨0, rfl⟩
theorem results_tmp4 {fn : Func} {t u v x : Tmp} (h : fn.results = #[.tmp t, .tmp u, .tmp v, .tmp x]) (tmps : Array Value) (P : Program) (w : World) :
    (results fn tmps).run P w = .ok (.tuple #[tmps.getD t undef, tmps.getD u undef, tmps.getD v undef, tmps.getD x undef]) w := by simp [results, h]

theorem below_drewN {B : Nat} {a w : World} (h : Below B a w) (n : Nat) : Below B a (w.drewN n) := ⟨h.os, h.tape, h.output, h.size, h.block⟩
theorem below_dr (B : Nat) (w : World) (n : Nat) : Below B w (w.drewN n) := below_drewN (Below.refl B w) n

/-! ### Bits of an int from 0 on -/
theorem ofInt_i64 (a : Nat) (ha : a < 9223372036854775808) : (BitVec.ofInt 64 (a : Int)).toNat = a := by
  rw [BitVec.ofInt_natCast, BitVec.toNat_ofNat]; exact Nat.mod_eq_of_lt (by omega)
theorem i64_and_nat (a b : Nat) (ha : a < 9223372036854775808) (hb : b < 9223372036854775808) : bits .and .i64 (a : Int) (b : Int) = ((a &&& b : Nat) : Int) := by
  have hx : a &&& b < 2 ^ 63 := Nat.and_lt_two_pow _ (by omega)
  show IntKind.i64.wrap ((BitVec.ofInt 64 (a : Int) &&& BitVec.ofInt 64 (b : Int)).toNat : Int) = _
  rw [BitVec.toNat_and, ofInt_i64 a ha, ofInt_i64 b hb]
  exact IntWalk.i64_in _ (by omega)
theorem i64_or_nat (a b : Nat) (ha : a < 9223372036854775808) (hb : b < 9223372036854775808) : bits .or .i64 (a : Int) (b : Int) = ((a ||| b : Nat) : Int) := by
  have hx : a ||| b < 2 ^ 63 := Nat.or_lt_two_pow (by omega) (by omega)
  show IntKind.i64.wrap ((BitVec.ofInt 64 (a : Int) ||| BitVec.ofInt 64 (b : Int)).toNat : Int) = _
  rw [BitVec.toNat_or, ofInt_i64 a ha, ofInt_i64 b hb]
  exact IntWalk.i64_in _ (by omega)
theorem i64_xor_nat (a b : Nat) (ha : a < 9223372036854775808) (hb : b < 9223372036854775808) : bits .xor .i64 (a : Int) (b : Int) = ((a ^^^ b : Nat) : Int) := by
  have hx : a ^^^ b < 2 ^ 63 := Nat.xor_lt_two_pow (by omega) (by omega)
  show IntKind.i64.wrap ((BitVec.ofInt 64 (a : Int) ^^^ BitVec.ofInt 64 (b : Int)).toNat : Int) = _
  rw [BitVec.toNat_xor, ofInt_i64 a ha, ofInt_i64 b hb]
  exact IntWalk.i64_in _ (by omega)
theorem i64_and_one (a : Nat) (ha : a < 9223372036854775808) : bits .and .i64 (a : Int) 1 = ((a % 2 : Nat) : Int) := by
  have := i64_and_nat a 1 ha (by omega)
  rw [Nat.and_one_is_mod] at this
  exact this
end Go.Proofs.Ytgdcmebhopjfaaa
namespace Go.Proofs.Ytgdcmebhopjfaaa
open Go.RowKit

/-- The cells at an address read as a list of values. -/
def Reads (w : World) (ao : Option Addr) (xs : List Value) : Prop :=
  ∀ (j : Nat) (u : Value), xs[j]? = some u → ∃ b o, ao = some ⟨b, o, none⟩ ∧ w.cell? ⟨b, o + j, none⟩ = some u
theorem Reads.below {w w' : World} {ao : Option Addr} {xs : List Value} (h : Reads w ao xs) (hb : Below w.heap.size w w') : Reads w' ao xs := by
  intro j u hu
  obtain ⟨b, o, ha, hc⟩ := h j u hu
  exact ⟨b, o, ha, (hb.cell (World.block_lt_of_cell? w _ hc)).trans hc⟩
theorem Reads.nil (w : World) (ao : Option Addr) : Reads w ao [] := by intro j u h; simp at h
theorem Reads.drew {w : World} {ao : Option Addr} {xs : List Value} (h : Reads w ao xs) (n : Nat) : Reads (w.drewN n) ao xs := h
theorem reads_new (w : World) (xs : Array Value) (e : TypeId) : Reads (w.alloc (.cells xs e)) (some ⟨w.heap.size, 0, none⟩) xs.toList := by
  intro j u hu
  refine ⟨w.heap.size, 0, rfl, ?_⟩
  rw [Nat.zero_add, cell_of_row (w.alloc (.cells xs e)) w.heap.size j xs e (0, 0) (heap_alloc_new w _)]
  simpa using hu
theorem Reads.alloc {w : World} {ao : Option Addr} {xs : List Value} (h : Reads w ao xs) (o : Obj) : Reads (w.alloc o) ao xs :=
  h.below ((Below.refl _ _).alloc (Nat.le_refl _) _)
theorem reads_two (w : World) (o : Obj) (xs : Array Value) (e : TypeId) : Reads ((w.alloc o).alloc (.cells xs e)) (some ⟨w.heap.size + 1, 0, none⟩) xs.toList := by
  have h := reads_new (w.alloc o) xs e
  rwa [World.size_alloc] at h
/-- Cells that only another block's writing has not touched. -/
theorem Reads.grown {w w' : World} {ao : Option Addr} {xs : List Value} {row : Option Nat} (h : Reads w ao xs) (hg : w.grownBy w' row) (hne : ∀ a, ao = some a → some a.block ≠ row) : Reads w' ao xs := by
  intro j u hu
  obtain ⟨b, o, ha, hc⟩ := h j u hu
  exact ⟨b, o, ha, hg.cell hc (hne ⟨b, o, none⟩ ha)⟩

/-- What the table says of an element's type. -/
def ElemRow (P : Program) (e : TypeId) (z : Value) (size bytes : Nat) : Prop := ∃ i, P.info? e = some i ∧ i.zero = some z ∧ i.size = size ∧ i.bytes = bytes ∧ z.cells.size = size ∧ 0 < size
theorem elemRow_of {P : Program} {e : TypeId} {z : Value} {size bytes : Nat} (h : (P.info? e).map (fun i => (i.zero, i.size, i.bytes)) = some (some z, size, bytes)) (hz : z.cells.size = size) (hs : 0 < size) : ElemRow P e z size bytes := by
  obtain ⟨i, h1, h2, h3, h4⟩ := info_parts h
  exact ⟨i, h1, h2, h3, h4, hz, hs⟩

theorem below_of_grown {w w' : World} {base : Nat} {row : Option Nat} (hg : w.grownBy w' row) (hb : base ≤ w.heap.size) (hr : ∀ k, row = some k → base ≤ k) : Below base w w' :=
  (Below.refl base w).grown hg hb hr

/-- 'append(s, x)' of one new element, onto a slice of the call's own. -/
theorem app_one {P : Program} {w : World} {ops : Array Oper} {rest : List Oper} {o : Oper} {a : Act} {Q : Exit → Act → World → Prop} (hgd : o.guard = none) (s x : Operand) (t : TypeId)
    (ho : o.op = .call { callee := .builtin .append, args := #[s, x], argTypes := #[t, t] })
    (base : Nat) (e : TypeId) (z : Value) (size bytes : Nat) (ht : P.underlying t = some (.slice e)) (hE : ElemRow P e z size bytes)
    (v : Value) (n : Nat) (xs : List Value) (hs : a.eval s = v) (hown : w.ownsRow base e size v n xs)
    (news : List Value) (hx : a.eval x = .slice (some ⟨w.heap.size, 0, none⟩) 1 1) (hl : news.length = size) (h1 : ∀ u ∈ news, u.oneCell' = true)
    (h63 : n + 1 ≤ maxLen) (hbytes : (n + 1) * bytes ≤ 140737488355328) (hbase : base ≤ w.heap.size)
    (h : ∀ v' w', w'.ownsRow base e size v' (n + 1) (xs ++ news) → (w.alloc (.cells news.toArray e)).grownBy w' v.ownBlock → Below base w w' → wpList P ops Q rest (a.put o.dst v') w') :
    wpList P ops Q (o :: rest) a (w.alloc (.cells news.toArray e)) := by
  obtain ⟨i, hi, hz, hsize, hby, hzs, hsz⟩ := hE
  refine wpList_append_own _ hgd s x t ho base e i z size bytes ht hi hz hsize hby hzs hsz v n xs hs (hown.alloc _) ⟨w.heap.size, 0, none⟩ 1 1 news hx (by omega) ?_ h1 h63 hbytes (by rw [World.size_alloc]; omega) ?_
  · intro j u hu
    obtain ⟨b, o2, ha, hc⟩ := reads_new w news.toArray e j u (by simpa using hu)
    simp only [Option.some.injEq, Addr.mk.injEq, and_true] at ha
    obtain ⟨rfl, rfl⟩ := ha
    rw [Addr.add_lit]; exact hc
  · intro v' w' h2 h3 _
    refine h v' w' h2 h3 (((Below.refl base w).alloc hbase _).grown h3 (by rw [World.size_alloc]; omega) fun k hk => (hown.lt k hk).1)

/-- 'append(s, x...)': all elements of a slice that is read, onto a slice of the call's own. -/
theorem app_all {P : Program} {w : World} {ops : Array Oper} {rest : List Oper} {o : Oper} {a : Act} {Q : Exit → Act → World → Prop} (hgd : o.guard = none) (s x : Operand) (t : TypeId)
    (ho : o.op = .call { callee := .builtin .append, args := #[s, x], argTypes := #[t, t] })
    (base : Nat) (e : TypeId) (z : Value) (size bytes : Nat) (ht : P.underlying t = some (.slice e)) (hE : ElemRow P e z size bytes)
    (v : Value) (n : Nat) (xs : List Value) (hs : a.eval s = v) (hown : w.ownsRow base e size v n xs)
    (ao : Option Addr) (m c : Nat) (news : List Value) (hx : a.eval x = .slice ao m c) (hnone : ao = none → m = 0 ∧ c = 0) (hl : news.length = m * size) (hR : Reads w ao news) (h1 : ∀ u ∈ news, u.oneCell' = true)
    (h63 : n + m ≤ maxLen) (hbytes : (n + m) * bytes ≤ 140737488355328) (hbase : base ≤ w.heap.size)
    (h : ∀ v' w', w'.ownsRow base e size v' (n + m) (xs ++ news) → w.grownBy w' v.ownBlock → Below base w w' → wpList P ops Q rest (a.put o.dst v') w') :
    wpList P ops Q (o :: rest) a w := by
  obtain ⟨i, hi, hz, hsize, hby, hzs, hsz⟩ := hE
  have key : ∀ ad, ao = some ad → (∀ j u, news[j]? = some u → w.cell? (ad.add j) = some u) → wpList P ops Q (o :: rest) a w := by
    intro ad had hnews
    subst had
    refine wpList_append_own _ hgd s x t ho base e i z size bytes ht hi hz hsize hby hzs hsz v n xs hs hown ad m c news hx hl hnews h1 h63 hbytes hbase ?_
    intro v' w' h2 h3 _
    exact h v' w' h2 h3 (below_of_grown h3 hbase fun k hk => (hown.lt k hk).1)
  cases ao with
  | none =>
    obtain ⟨rfl, rfl⟩ := hnone rfl
    have hn : news = [] := List.eq_nil_of_length_eq_zero (by simpa using hl)
    subst hn
    refine wpList_append_own_none hgd s x t ho base e i size ht hi v n xs hs hown hx ?_
    have h4 := h v w (by simpa using hown) (World.grownBy.refl _ _) (Below.refl _ _)
    exact h4
  | some ad =>
    refine key ad rfl ?_
    intro j u hu
    obtain ⟨b, o2, ha, hc⟩ := hR j u hu
    cases ha
    rw [Addr.add_lit]; exact hc

/-- 'make([]T, 0, n)'. -/
theorem make_cap {P : Program} {w : World} {ops : Array Oper} {rest : List Oper} {o : Oper} {a : Act} {Q : Exit → Act → World → Prop}
    (hg : o.guard = none) (l c : Operand) (t : TypeId) (hop : o.op = Op.makeSlice t l c)
    (base : Nat) (e : TypeId) (z : Value) (size bytes : Nat) (h1 : P.underlying t = some (.slice e)) (hE : ElemRow P e z size bytes)
    (kl kc : IntKind) (C : Int) (n : Nat) (hl : a.eval l = .int kl 0) (hc : a.eval c = .int kc C) (hC : C = (n : Int)) (b2 : bytes * n ≤ 281474976710656) (b3 : n ≤ maxLen) (b4 : base ≤ w.heap.size)
    (hK : ∀ w', w'.ownsRow base e size (.slice (some ⟨w.heap.size, 0, none⟩) 0 n) 0 [] → w.grownBy w' none → wpList P ops Q rest (a.put o.dst (.slice (some ⟨w.heap.size, 0, none⟩) 0 n)) w') :
    wpList P ops Q (o :: rest) a w := by
  obtain ⟨i, hi, hz, hsize, hby, hzs, hsz⟩ := hE
  exact wpList_make_own w hg l c t hop base e i z size h1 hi hz hsize kl kc C n hl hc hC (by rw [hby]; exact b2) b3 b4 hK
/-- 'make([]T, n)'. -/
theorem make_len {P : Program} {w : World} {ops : Array Oper} {rest : List Oper} {o : Oper} {a : Act} {Q : Exit → Act → World → Prop}
    (hg : o.guard = none) (l c : Operand) (t : TypeId) (hop : o.op = Op.makeSlice t l c)
    (base : Nat) (e : TypeId) (z : Value) (size bytes : Nat) (h1 : P.underlying t = some (.slice e)) (hE : ElemRow P e z size bytes)
    (kl kc : IntKind) (L C : Int) (n : Nat) (hl : a.eval l = .int kl L) (hc : a.eval c = .int kc C) (hL : L = (n : Int)) (hC : C = (n : Int)) (b2 : bytes * n ≤ 281474976710656) (b3 : n ≤ maxLen) (b4 : base ≤ w.heap.size)
    (hK : ∀ w', w'.ownsRow base e size (.slice (some ⟨w.heap.size, 0, none⟩) n n) n (madeCells z.cells (n * size)).toList → w.grownBy w' none → wpList P ops Q rest (a.put o.dst (.slice (some ⟨w.heap.size, 0, none⟩) n n)) w') :
    wpList P ops Q (o :: rest) a w := by
  obtain ⟨i, hi, hz, hsize, hby, hzs, hsz⟩ := hE
  exact wpList_make_full w hg l c t hop base e i z size h1 hi hz hsize kl kc L C n hl hc hL hC (by rw [hby]; exact b2) b3 b4 hK

/-- A slice of the call's own is read. -/
theorem own_reads {w : World} {base : Nat} {e : TypeId} {size : Nat} {v : Value} {n : Nat} {xs : List Value} (h : w.ownsRow base e size v n xs) :
    ∃ ao cap, v = .slice ao n cap ∧ Reads w ao xs ∧ (ao = none → n = 0 ∧ cap = 0) ∧ n ≤ maxLen := by
  rcases h.2 with ⟨rfl, rfl⟩ | ⟨g, cap, cur, hv, h2⟩
  · have hx : xs = [] := List.eq_nil_of_length_eq_zero (by simpa using h.1)
    subst hx
    exact ⟨none, 0, rfl, Reads.nil _ _, fun _ => ⟨rfl, rfl⟩, by unfold maxLen; omega⟩
  · refine ⟨_, cap, hv, ?_, (by intro h; cases h), by have := h2.2.2.1; have := h2.2.2.2.1; omega⟩
    intro j u hu
    refine ⟨g, 0, rfl, ?_⟩
    have := h.cells (g := g) (by rw [hv]; rfl) j u hu
    rw [Addr.add_lit] at this
    exact this
theorem own_below {w w' : World} {base : Nat} {e : TypeId} {size : Nat} {v : Value} {n : Nat} {xs : List Value} (h : w.ownsRow base e size v n xs) (hb : Below w.heap.size w w') : w'.ownsRow base e size v n xs := by
  refine ⟨h.1, ?_⟩
  rcases h.2 with hn | ⟨g, cap, cur, rfl, hbg, hg, rest⟩
  · exact .inl hn
  · refine .inr ⟨g, cap, cur, rfl, hbg, ?_, rest⟩
    rw [hb.block g (Array.getElem?_eq_some_iff.1 hg).1]; exact hg
theorem own_mono {w : World} {base base' : Nat} {e : TypeId} {size : Nat} {v : Value} {n : Nat} {xs : List Value} (h : w.ownsRow base e size v n xs) (hb : base' ≤ base) : w.ownsRow base' e size v n xs := by
  refine ⟨h.1, ?_⟩
  rcases h.2 with hn | ⟨g, cap, cur, hv, hbg, rest⟩
  · exact .inl hn
  · exact .inr ⟨g, cap, cur, hv, by omega, rest⟩
theorem ints_one (k : IntKind) (zs : List Int) : ∀ u ∈ zs.map (Value.int k), u.oneCell' = true := by
  intro u hu
  obtain ⟨_, _, rfl⟩ := List.mem_map.1 hu
  rfl
theorem below_size {B : Nat} {w w' : World} (h : Below B w w') (hB : B ≤ w.heap.size) : B ≤ w'.heap.size := Nat.le_trans hB h.size
end Go.Proofs.Ytgdcmebhopjfaaa
namespace Go.Proofs.Ytgdcmebhopjfaaa
open Go.RowKit

/-- Where the first of some values stands that a test lets by; -1 if there is none. -/
def idxI (p : Int → Bool) (zs : List Int) : Int := match zs.findIdx? p with | some i => (i : Int) | none => -1
theorem idxI_none {p : Int → Bool} {zs : List Int} (h : ∀ x ∈ zs, p x = false) : idxI p zs = -1 := by
  unfold idxI
  rw [List.findIdx?_eq_none_iff.2 (by simpa using h)]
theorem idxI_some {p : Int → Bool} {zs : List Int} {k : Nat} {x : Int} (hk : zs[k]? = some x) (hx : p x = true) (h : ∀ j y, j < k → zs[j]? = some y → p y = false) : idxI p zs = k := by
  have : zs.findIdx? p = some k := by
    rw [List.findIdx?_eq_some_iff_getElem]
    obtain ⟨hl, he⟩ := List.getElem?_eq_some_iff.1 hk
    refine ⟨hl, by rw [he]; exact hx, fun j hj => ?_⟩
    have := h j _ hj (List.getElem?_eq_getElem (by omega))
    simp [this]
  unfold idxI
  rw [this]

set_option maxRecDepth 20000 in
set_option maxHeartbeats 400000 in
theorem indexFunc_int (fn : FuncId) (hfn : ∀ (x : Value) (W : World), (callFunc fn #[x]).run Try.prog W = .ok (.enter fn #[x]) W) (p : Int → Bool) (zs : List Int) (ao : Option Addr) (cap : Nat) (w : World) (hl : zs.length ≤ 9223372036854775807) (hR : Hid (Reads w ao (zs.map (Value.int .i64))))
    (hf : Hid (∀ x ∈ zs, ∀ n, Calls Try.prog fn #[.int .i64 x] (w.drewN n) fun e w' => e = .returned (.bool (p x)) ∧ ∃ m, w' = (w.drewN n).drewN m)) :
    Calls Try.prog 143 #[.slice ao zs.length cap, .func (.func fn) #[] #[]] w fun e w' => e = .returned (.int .i64 (idxI p zs)) ∧ ∃ n, w' = w.drewN n := by
  obtain ⟨len, hlen⟩ : ∃ n, zs.length = n := ⟨_, rfl⟩
  rw [hlen] at hl ⊢
  have HL := Lib.hid hlen
  clear hlen
  go_enter Try.func143, Try.ntmps143
  go_wp2_with fail
  go_loopw [8] (fun vi wr => ∃ k : Nat, vi = .int .i64 k ∧ k ≤ len ∧ Hid (∀ j y, j < k → zs[j]? = some y → p y = false) ∧ ∃ n, wr = w.drewN n) (fun vi _ => len - (intOf vi).toNat)
  case atStart => exact ⟨0, rfl, by omega, by intro j y hj; omega, 0, rfl⟩
  case round =>
    obtain ⟨k, rfl, hk, hno, n, rfl⟩ := hrel
    by_cases hkl : k < len
    · obtain ⟨x, hx⟩ : ∃ x, zs[k]? = some x := ⟨zs[k]'(by rw [HL.out]; exact hkl), List.getElem?_eq_getElem _⟩
      obtain ⟨b, o, rfl, hc⟩ := hR.out k (.int .i64 x) (by simp [hx])
      have HX := Lib.hid hx
      clear hx
      have hcall := Lib.hid (hf.out x (List.mem_of_getElem? HX.out))
      cases hp : p x with
      | true =>
        have HP := Lib.hid hp
        clear hp
        go_wp2_with fail
        refine (hcall.out n).mono ?_
        rw [HP.out]
        rintro e w' ⟨rfl, m, rfl⟩
        go_wp2
        go_ret
        exact ⟨ret_int (idxI_some HX.out HP.out hno.out).symm, _, rfl⟩
      | false =>
        have HP := Lib.hid hp
        clear hp
        go_wp2_with fail
        refine (hcall.out n).mono ?_
        rw [HP.out]
        rintro e w' ⟨rfl, m, rfl⟩
        go_wp2
        go_roundw
        case rel => exact ⟨k + 1, by go_num, by omega, by
          intro j y hj hy
          by_cases he : j = k
          · subst he; rw [HX.out] at hy; cases hy; exact HP.out
          · exact hno.out j y (by omega) hy, _, rfl⟩
        case measure => simp [intOf]; omega
    · obtain rfl : k = len := by omega
      go_wp2
      go_ret
      refine ⟨ret_int (idxI_none fun x hx => ?_).symm, _, rfl⟩
      obtain ⟨j, hj⟩ := List.getElem?_of_mem hx
      have := (List.getElem?_eq_some_iff.1 hj).1
      exact hno.out j x (by have := HL.out; omega) hj
theorem idxI_nonneg (p : Int → Bool) (zs : List Int) : decide (0 ≤ idxI p zs) = zs.any p := by
  unfold idxI
  cases h : zs.findIdx? p with
  | none =>
    have h2 := List.findIdx?_eq_none_iff.1 h
    have : zs.any p = false := by simpa using h2
    rw [this]; rfl
  | some i =>
    have h2 := List.findIdx?_eq_some_iff_getElem.1 h
    obtain ⟨hl, hp, _⟩ := h2
    have : zs.any p = true := List.any_eq_true.2 ⟨_, List.getElem_mem hl, hp⟩
    rw [this]; simp

set_option maxHeartbeats 400000 in
theorem containsFunc_int (fn : FuncId) (hfn : ∀ (x : Value) (W : World), (callFunc fn #[x]).run Try.prog W = .ok (.enter fn #[x]) W) (p : Int → Bool) (zs : List Int) (ao : Option Addr) (cap : Nat) (w : World) (hl : zs.length ≤ 9223372036854775807) (hR : Hid (Reads w ao (zs.map (Value.int .i64))))
    (hf : Hid (∀ x ∈ zs, ∀ n, Calls Try.prog fn #[.int .i64 x] (w.drewN n) fun e w' => e = .returned (.bool (p x)) ∧ ∃ m, w' = (w.drewN n).drewN m)) :
    Calls Try.prog 77 #[.slice ao zs.length cap, .func (.func fn) #[] #[]] w fun e w' => e = .returned (.bool (zs.any p)) ∧ ∃ n, w' = w.drewN n := by
  go_enter Try.func77, Try.ntmps77
  go_wp2_with (go_at_call 143; refine (indexFunc_int fn hfn p zs ao cap w hl hR hf).mono ?_; rintro e w' ⟨rfl, n, rfl⟩)
  go_ret
  exact ⟨ret_bool (idxI_nonneg p zs), _, rfl⟩
end Go.Proofs.Ytgdcmebhopjfaaa
namespace Go.Proofs.Ytgdcmebhopjfaaa
open Go.RowKit

theorem append_block {P : Program} (w : World) (base : Nat) (t ty e : TypeId) (i : TypeInfo) (z : Value) (ht : P.underlying t = some (.slice e)) (hi : P.info? e = some i) (hz : i.zero = some z)
    (v : Value) (n : Nat) (xs : List Value) (hown : w.ownsRow base e i.size v n xs)
    (a : Addr) (m c : Nat) (news : List Value) (hl : news.length = m * i.size) (hnews : ∀ j u, news[j]? = some u → w.cell? (a.add j) = some u) (h1 : ∀ u ∈ news, u.oneCell' = true)
    (hm0 : 0 < m) (h63 : n + m ≤ maxLen) (hbytes : (n + m) * i.bytes ≤ 140737488355328) {v' : Value} {w' : World}
    (hr : (Builtin.append_ #[t, t] ty #[v, .slice (some a) m c]).run P w = .ok v' w') : v'.ownBlock = v.ownBlock ∨ v'.ownBlock = some w.heap.size := by
  have hsmall : n + m ≤ 9223372036854775807 := by simp only [maxLen] at h63; omega
  rcases hown.2 with ⟨rfl, rfl⟩ | ⟨g, cap, cur, rfl, hbg, hg, hnc, hcm, hcs, htake⟩
  · have hr2 := run_append_nil (P := P) w t ty e i z ht hi hz a m c news hl hnews hm0 (by omega) (by have hb := hbytes; simp only [Nat.zero_add] at hb; omega)
    rw [hr2] at hr
    injection hr with e1 e2
    subst e1
    exact .inr rfl
  · by_cases hroom : n + m ≤ cap
    · have hfit : n * i.size + news.length ≤ cur.size := by rw [hl, hcs, ← Nat.add_mul]; exact Nat.mul_le_mul_right _ hroom
      have hr2 := run_append_room (P := P) w t ty e i ht hi g n cap cur hg a m c news hl hnews h1 hroom hfit
      rw [hr2] at hr
      injection hr with e1 e2
      subst e1
      exact .inl rfl
    · have holds : ∀ j u, xs[j]? = some u → w.cell? ((⟨g, 0, none⟩ : Addr).add j) = some u := hown.cells (g := g) rfl
      have hr2 := run_append_grow (P := P) w t ty e i z ht hi hz ⟨g, 0, none⟩ n cap xs hown.1 holds a m c news hl hnews (by omega) (by omega) (growslice_fits (by omega) hbytes)
      rw [hr2] at hr
      injection hr with e1 e2
      subst e1
      exact .inr rfl

/-- 'append(s, x)' of one new element, and where the result lies. -/
theorem app_one2 {P : Program} {w : World} {ops : Array Oper} {rest : List Oper} {o : Oper} {a : Act} {Q : Exit → Act → World → Prop} (hgd : o.guard = none) (s x : Operand) (t : TypeId)
    (ho : o.op = .call { callee := .builtin .append, args := #[s, x], argTypes := #[t, t] })
    (base : Nat) (e : TypeId) (z : Value) (size bytes : Nat) (ht : P.underlying t = some (.slice e)) (hE : ElemRow P e z size bytes)
    (v : Value) (n : Nat) (xs : List Value) (hs : a.eval s = v) (hown : w.ownsRow base e size v n xs)
    (news : List Value) (hx : a.eval x = .slice (some ⟨w.heap.size, 0, none⟩) 1 1) (hl : news.length = size) (h1 : ∀ u ∈ news, u.oneCell' = true)
    (h63 : n + 1 ≤ maxLen) (hbytes : (n + 1) * bytes ≤ 140737488355328) (hbase : base ≤ w.heap.size)
    (h : ∀ v' w', w'.ownsRow base e size v' (n + 1) (xs ++ news) → (w.alloc (.cells news.toArray e)).grownBy w' v.ownBlock → Below base w w' →
      (v'.ownBlock = v.ownBlock ∨ v'.ownBlock = some (w.heap.size + 1)) → wpList P ops Q rest (a.put o.dst v') w') :
    wpList P ops Q (o :: rest) a (w.alloc (.cells news.toArray e)) := by
  obtain ⟨i, hi, hz, hsize, hby, hzs, hsz⟩ := hE
  subst hsize
  subst hby
  have hnews : ∀ j u, news[j]? = some u → (w.alloc (.cells news.toArray e)).cell? ((⟨w.heap.size, 0, none⟩ : Addr).add j) = some u := by
    intro j u hu
    obtain ⟨b, o2, ha, hc⟩ := reads_new w news.toArray e j u (by simpa using hu)
    simp only [Option.some.injEq, Addr.mk.injEq, and_true] at ha
    obtain ⟨rfl, rfl⟩ := ha
    rw [Addr.add_lit]; exact hc
  refine wpList_plain hgd fun K hK => ?_
  obtain ⟨v', w', hr, h2, h3, _⟩ := run_append_own (P := P) (w.alloc (.cells news.toArray e)) base t o.type e i z i.size i.bytes ht hi hz rfl rfl hzs hsz v n xs (hown.alloc _) ⟨w.heap.size, 0, none⟩ 1 1 news (by omega) hnews h1 h63 hbytes (by rw [World.size_alloc]; omega)
  have hb := append_block (P := P) (w.alloc (.cells news.toArray e)) base t o.type e i z ht hi hz v n xs (hown.alloc _) ⟨w.heap.size, 0, none⟩ 1 1 news (by omega) hnews h1 (by omega) h63 hbytes hr
  rw [World.size_alloc] at hb
  unfold Oper.wp execOp
  simp only [ho, resolve, invoke, builtin, Sem.run_bind, Sem.run_pure, Result.andThen_ok, List.map_toArray, List.map_cons, List.map_nil, hs, hx, hr]
  exact hK _ _ (h v' w' h2 h3 (((Below.refl base w).alloc hbase _).grown h3 (by rw [World.size_alloc]; omega) fun k hk => (hown.lt k hk).1) hb)

/-- Two slices of the call's own lie in different blocks. -/
def Apart (v u : Value) : Prop := ∀ g, v.ownBlock = some g → u.ownBlock ≠ some g
theorem Apart.grow {v u v' : Value} {k : Nat} (h : Apart v u) (hb : v'.ownBlock = v.ownBlock ∨ v'.ownBlock = some k) (hk : ∀ g, u.ownBlock = some g → g < k) : Apart v' u := by
  intro g hg hu
  rcases hb with hb | hb
  · exact h g (by rw [← hb]; exact hg) hu
  · rw [hb] at hg; injection hg with hg; have := hk g hu; omega
theorem kept_apart {w w' : World} {base e size : Nat} {v u : Value} {n : Nat} {xs : List Value} {o : Obj} (h : w.ownsRow base e size u n xs) (hg : (w.alloc o).grownBy w' v.ownBlock) (ha : Apart v u) : w'.ownsRow base e size u n xs := by
  refine (h.alloc o).kept hg ?_
  cases hu : u.ownBlock with
  | none => exact .inl rfl
  | some g =>
    right
    intro hv
    exact ha g hv.symm hu
theorem Apart.symm {v u : Value} (h : Apart v u) : Apart u v := fun g hu hv => h g hv hu

end Go.Proofs.Ytgdcmebhopjfaaa
namespace Go.Proofs.Ytgdcmebhopjfaaa
open Go.RowKit

theorem dr3 (w : World) (a b c : Nat) : ∃ k, ((w.drewN a).drewN b).drewN c = w.drewN k := ⟨a + b + c, by rw [World.drewN_drewN, World.drewN_drewN, Nat.add_assoc]⟩
def rowF (n : Nat) (f : Nat → Value) : List Value := (List.range n).map f
theorem rowF_length (n : Nat) (f : Nat → Value) : (rowF n f).length = n := by simp [rowF]
theorem rowF_get {n : Nat} (f : Nat → Value) {j : Nat} (h : j < n) : (rowF n f)[j]? = some (f j) := by simp [rowF, h]
theorem rowF_congr {n : Nat} {f g : Nat → Value} (h : ∀ j, j < n → f j = g j) : rowF n f = rowF n g :=
  List.map_congr_left fun j hj => h j (List.mem_range.1 hj)
theorem rowF_set {n i : Nat} (f : Nat → Value) (u : Value) : (rowF n f).set i u = rowF n (fun j => if j = i then u else f j) := by
  apply List.ext_getElem?
  intro j
  rw [List.getElem?_set]
  by_cases h : j < n
  · rw [rowF_get _ h, rowF_get _ h, rowF_length]
    by_cases hij : i = j
    · subst hij; rw [if_pos rfl, if_pos h, if_pos rfl]
    · rw [if_neg hij, if_neg (fun h => hij h.symm)]
  · rw [List.getElem?_eq_none (by rw [rowF_length]; omega), List.getElem?_eq_none (by rw [rowF_length]; omega), rowF_length]
    split
    · rw [if_neg (by omega)]
    · rfl
theorem rowF_succ (n : Nat) (f : Nat → Value) : rowF (n + 1) f = rowF n f ++ [f n] := by simp [rowF, List.range_succ]
theorem rowF_zero (f : Nat → Value) : rowF 0 f = [] := rfl
theorem replicate_rowF (n : Nat) (z : Value) : List.replicate n z = rowF n (fun _ => z) := by
  apply List.ext_getElem?
  intro j
  by_cases h : j < n
  · rw [rowF_get _ h]; simp [h]
  · rw [List.getElem?_eq_none (by simp; omega), List.getElem?_eq_none (by rw [rowF_length]; omega)]
theorem rowF_one {n : Nat} {f : Nat → Value} (h : ∀ j, (f j).oneCell' = true) : ∀ u ∈ rowF n f, u.oneCell' = true := by
  intro u hu
  obtain ⟨j, _, rfl⟩ := List.mem_map.1 hu
  exact h j
theorem map_rowF {α : Type} (l : List α) (g : α → Value) (d : α) : l.map g = rowF l.length (fun j => g (l.getD j d)) := by
  apply List.ext_getElem?
  intro j
  by_cases h : j < l.length
  · rw [rowF_get _ h]; simp [h]
  · rw [List.getElem?_eq_none (by simp; omega), List.getElem?_eq_none (by rw [rowF_length]; omega)]

/-- A row of one-cell elements at the head of block g: n places, told by f. -/
def Own (w : World) (base e g n cap : Nat) (f : Nat → Value) : Prop := w.ownsRow base e 1 (.slice (some ⟨g, 0, none⟩) n cap) n (rowF n f)
theorem Own.cell {w : World} {base e g n cap : Nat} {f : Nat → Value} (h : Own w base e g n cap f) {i : Nat} (hi : i < n) : w.cell? ⟨g, i, none⟩ = some (f i) := by
  have h1 := World.ownsRow.cellAt (g := g) (cap := cap) (n := n) h i (by omega)
  rw [h1, rowF_get f hi]
theorem Own.frozen {w : World} {base e g n cap : Nat} {f : Nat → Value} (h : Own w base e g n cap f) (i : Nat) : w.frozen? ⟨g, i, none⟩ = false := World.ownsRow.frozenAt h i
theorem Own.store {w : World} {base e g n cap : Nat} {f : Nat → Value} (h : Own w base e g n cap f) (i : Nat) (u : Value) :
    Own (w.setCell ⟨g, i, none⟩ u) base e g n cap (fun j => if j = i then u else f j) ∧ w.grownBy (w.setCell ⟨g, i, none⟩ u) (some g) := by
  have h1 := World.ownsRow.stored h i u
  refine ⟨?_, h1.2⟩
  have h2 := h1.1
  rw [rowF_set] at h2
  exact h2
theorem Own.congr {w : World} {base e g n cap : Nat} {f f' : Nat → Value} (h : Own w base e g n cap f) (hf : ∀ j, j < n → f j = f' j) : Own w base e g n cap f' := by
  unfold Own at h ⊢
  rwa [rowF_congr hf] at h
theorem Own.lt {w : World} {base e g n cap : Nat} {f : Nat → Value} (h : Own w base e g n cap f) : base ≤ g ∧ g < w.heap.size := World.ownsRow.lt h g rfl
theorem Own.below {w w' : World} {base e g n cap : Nat} {f : Nat → Value} (h : Own w base e g n cap f) (hb : Below w.heap.size w w') : Own w' base e g n cap f := own_below h hb
theorem Own.drewN {w : World} {base e g n cap : Nat} {f : Nat → Value} (h : Own w base e g n cap f) (k : Nat) : Own (w.drewN k) base e g n cap f := h.below (below_dr _ _ _)
theorem Own.reads {w : World} {base e g n cap : Nat} {f : Nat → Value} (h : Own w base e g n cap f) : Reads w (some ⟨g, 0, none⟩) (rowF n f) := by
  obtain ⟨ao, cp, hv, hR, _, _⟩ := own_reads h
  cases hv; exact hR
theorem Own.kept {w w' : World} {base e g n cap : Nat} {f : Nat → Value} {r : Nat} (h : Own w base e g n cap f) (hg : w.grownBy w' (some r)) (hne : g ≠ r) : Own w' base e g n cap f :=
  World.ownsRow.kept h hg (.inr fun h => hne (by injection h))
/-- What a store into an own row leaves below the row's base. -/
theorem Own.belowStore {w w0 : World} {base e g n cap : Nat} {f : Nat → Value} (h : Own w base e g n cap f) (hb : Below base w0 w) (hs : base ≤ w0.heap.size) (i : Nat) (u : Value) : Below base w0 (w.setCell ⟨g, i, none⟩ u) :=
  hb.trans ((Below.refl base w).grown (h.store i u).2 (Nat.le_trans hs hb.size) (fun k hk => by cases hk; exact h.lt.1))
/-- A row that is written out: '[]T{x, ..}' of one-cell elements. -/
theorem own_lit (w : World) (base e : Nat) (xs : List Value) (hb : base ≤ w.heap.size) (hm : xs.length ≤ maxLen) :
    (w.alloc (.cells xs.toArray e)).ownsRow base e 1 (.slice (some ⟨w.heap.size, 0, none⟩) xs.length xs.length) xs.length xs :=
  ⟨by simp, .inr ⟨w.heap.size, xs.length, xs.toArray, rfl, hb, heap_alloc_new w _, Nat.le_refl _, hm, by simp, by simp⟩⟩
theorem own_form {w : World} {base e size : Nat} {v : Value} {n : Nat} {xs : List Value} (h : w.ownsRow base e size v n xs) (hx : xs ≠ []) : ∃ g cap, v = .slice (some ⟨g, 0, none⟩) n cap := by
  rcases h.2 with ⟨_, hnil⟩ | ⟨g, cap, cur, rfl, _⟩
  · exact absurd (List.eq_nil_of_length_eq_zero (by rw [h.1, hnil, Nat.zero_mul])) hx
  · exact ⟨g, cap, rfl⟩
/-- 'make([]T, n)' of one-cell elements. -/
theorem make_own {P : Program} {w : World} {ops : Array Oper} {rest : List Oper} {o : Oper} {a : Act} {Q : Exit → Act → World → Prop}
    (hg : o.guard = none) (l c : Operand) (t : TypeId) (hop : o.op = Op.makeSlice t l c)
    (base : Nat) (e : TypeId) (z : Value) (bytes : Nat) (h1 : P.underlying t = some (.slice e)) (hE : ElemRow P e z 1 bytes) (hzc : z.cells = #[z])
    (kl kc : IntKind) (L C : Int) (n : Nat) (hl : a.eval l = .int kl L) (hc : a.eval c = .int kc C) (hL : L = (n : Int)) (hC : C = (n : Int)) (b2 : bytes * n ≤ 281474976710656) (b3 : n ≤ maxLen) (b4 : base ≤ w.heap.size)
    (hK : ∀ w', Own w' base e w.heap.size n n (fun _ => z) → w.grownBy w' none → wpList P ops Q rest (a.put o.dst (.slice (some ⟨w.heap.size, 0, none⟩) n n)) w') :
    wpList P ops Q (o :: rest) a w := by
  refine make_len hg l c t hop base e z 1 bytes h1 hE kl kc L C n hl hc hL hC b2 b3 b4 fun w' hown hgr => hK w' ?_ hgr
  rw [hzc, Nat.mul_one, toList_madeCells_one, replicate_rowF] at hown
  exact hown
/-- 'append(s, x)' of one cell at a step of a region that draws its order; W is what has become of w0 with the new cell behind it. -/
theorem step_app1 {P : Program} {W : World} {ops : Array Oper} {o : Oper} {a : Act} {K : Act → World → Prop} {Q : Exit → Act → World → Prop} {E : Prop} (hgd : o.guard = none) (s x : Operand) (t : TypeId)
    (ho : o.op = .call { callee := .builtin .append, args := #[s, x], argTypes := #[t, t] })
    (base : Nat) (e : TypeId) (z : Value) (bytes : Nat) (ht : P.underlying t = some (.slice e)) (hE : ElemRow P e z 1 bytes)
    (v : Value) (n : Nat) (xs : List Value) (hs : a.eval s = v) (w0 : World) (hown : w0.ownsRow base e 1 v n xs)
    (u : Value) (hx : a.eval x = .slice (some ⟨w0.heap.size, 0, none⟩) 1 1) (h1 : u.oneCell' = true)
    (hW : Below (w0.heap.size + 1) (w0.alloc (.cells #[u] e)) W) (hsz : W.heap.size = w0.heap.size + 1)
    (h63 : n + 1 ≤ maxLen) (hbytes : (n + 1) * bytes ≤ 140737488355328) (hbase : base ≤ w0.heap.size)
    (h : ∀ g cap w', w'.ownsRow base e 1 (.slice (some ⟨g, 0, none⟩) (n + 1) cap) (n + 1) (xs ++ [u]) → (w0.alloc (.cells #[u] e)).grownBy w' v.ownBlock → Below base w0 w' →
      (v.ownBlock = some g ∨ g = w0.heap.size + 1) → g < w'.heap.size → K (a.put o.dst (.slice (some ⟨g, 0, none⟩) (n + 1) cap)) w') :
    if Region.wanted o (yielded ops a.tmps) = true then Oper.wp P o a W K Q else E := by
  obtain ⟨i, hi, hz, hsize, hby, hzs, hsz1⟩ := hE
  have hW2 : Below (w0.alloc (.cells #[u] e)).heap.size (w0.alloc (.cells #[u] e)) W := by rw [World.size_alloc]; exact hW
  have hnb : W.heap[w0.heap.size]? = some (.cells #[u] e) := by rw [hW.block _ (by omega)]; exact heap_alloc_new w0 _
  refine step_append_lies W hgd s x t ho base e i z 1 bytes ht hi hz hsize hby hzs hsz1 v n xs hs (own_below (hown.alloc _) hW2) ⟨w0.heap.size, 0, none⟩ 1 1 [u] hx (by simp) (World.news_of_block hnb) (by intro q hq; simp at hq; subst hq; exact h1) (by omega) h63 hbytes (by omega) (w0.heap.size + 1) hsz ?_
  intro g cap w' hown' hgr hat hlt
  have hgr2 : (w0.alloc (.cells #[u] e)).grownBy w' v.ownBlock := ⟨hgr.os.trans hW.os, hgr.tape.trans hW.tape, hgr.output.trans hW.output, by rw [World.size_alloc]; have := hgr.size; omega, fun k hk hne => by
    rw [World.size_alloc] at hk
    rw [hgr.block k (by omega) hne, hW.block k hk]⟩
  exact h g cap w' hown' hgr2 (((Below.refl base w0).alloc hbase _).grown hgr2 (by rw [World.size_alloc]; omega) fun k hk => (hown.lt k hk).1) hat hlt
end Go.Proofs.Ytgdcmebhopjfaaa
namespace Go.Proofs.Ytgdcmebhopjfaaa
open Go.RowKit

def IntsIn (k : IntKind) (w : World) (ao : Option Addr) (len : Nat) (zs : List Int) : Prop :=
  zs.length = len ∧ len ≤ 9223372036854775807 ∧ (∀ z ∈ zs, (Lit.int k z).wf = true) ∧ Reads w ao (zs.map (Value.int k))
theorem intsIn_nil (k : IntKind) (w : World) : IntsIn k w none 0 [] := ⟨rfl, by omega, by simp, Reads.nil _ _⟩
theorem addr_of_cell {w : World} {a : Addr} {v : Value} (h : w.cell? a = some v) : a = ⟨a.block, a.off, none⟩ := by
  obtain ⟨b, o, s⟩ := a
  cases s with
  | none => rfl
  | some s => unfold World.cell? at h; split at h <;> simp at h
theorem reads_of {w : World} {a : Addr} {xs : List Value} (h : ∀ (i : Nat) (u : Value), xs[i]? = some u → w.cell? (a.add i) = some u) : Reads w (some a) xs := by
  intro j u hu
  have h0 : 0 < xs.length := by have := (List.getElem?_eq_some_iff.1 hu).1; omega
  have h1 := h 0 _ (List.getElem?_eq_getElem h0)
  have e : a.add 0 = a := rfl
  rw [e] at h1
  have ha := addr_of_cell h1
  have h2 := h j u hu
  rw [ha, Addr.add_lit] at h2
  exact ⟨a.block, a.off, by rw [← ha], h2⟩
theorem intsIn_of {k : IntKind} {w : World} {a : Addr} {len cap : Nat} {zs : List Int} (hl : len ≤ cap) (hm : cap ≤ maxLen) (hz : zs.length = cap)
    (hc : ∀ i, i < zs.length → w.cell? (a.add i) = some (.int k (zs.getD i 0))) (hw : ∀ n ∈ zs, (Lit.int k n).wf = true) : IntsIn k w (some a) len (zs.take len) := by
  unfold maxLen at hm
  refine ⟨by rw [List.length_take]; omega, by omega, fun z hz2 => hw z (List.mem_of_mem_take hz2), reads_of fun i u hu => ?_⟩
  rw [List.getElem?_map, List.getElem?_take] at hu
  split at hu
  · rename_i hi
    have hi2 : i < zs.length := by omega
    rw [List.getElem?_eq_getElem hi2] at hu
    simp only [Option.map_some, Option.some.injEq] at hu
    rw [hc i hi2, ← hu, List.getD_eq_getElem?_getD, List.getElem?_eq_getElem hi2]; rfl
  · simp at hu
def StrsIn (w : World) (ao : Option Addr) (len : Nat) (ss : List ByteArray) : Prop :=
  ss.length = len ∧ len ≤ 9223372036854775807 ∧ (∀ s ∈ ss, s.size ≤ 9223372036854775807) ∧ Reads w ao (ss.map Value.string)
theorem strsIn_nil (w : World) : StrsIn w none 0 [] := ⟨rfl, by omega, by simp, Reads.nil _ _⟩
theorem strsIn_of {w : World} {a : Addr} {len cap : Nat} {ss : List ByteArray} (hl : len ≤ cap) (hm : cap ≤ maxLen) (hz : ss.length = cap)
    (hc : ∀ i, i < ss.length → w.cell? (a.add i) = some (.string (ss.getD i ByteArray.empty))) (hw : ∀ s ∈ ss, s.size ≤ maxLen) : StrsIn w (some a) len (ss.take len) := by
  unfold maxLen at hm hw
  refine ⟨by rw [List.length_take]; omega, by omega, fun z hz2 => hw z (List.mem_of_mem_take hz2), reads_of fun i u hu => ?_⟩
  rw [List.getElem?_map, List.getElem?_take] at hu
  split at hu
  · rename_i hi
    have hi2 : i < ss.length := by omega
    rw [List.getElem?_eq_getElem hi2] at hu
    simp only [Option.map_some, Option.some.injEq] at hu
    rw [hc i hi2, ← hu, List.getD_eq_getElem?_getD, List.getElem?_eq_getElem hi2]; rfl
  · simp at hu
/-- The capacity of a slice that came in. -/
def CapOk (ao : Option Addr) (len cap : Nat) : Prop := (ao = none → len = 0 ∧ cap = 0) ∧ len ≤ cap ∧ cap ≤ 9223372036854775807
theorem u8_wf {a : Int} (h : (Lit.int .u8 a).wf = true) : 0 ≤ a ∧ a ≤ 255 := by
  simpa [Lit.wf, IntKind.min, IntKind.max, IntKind.signed, IntKind.bits] using h
end Go.Proofs.Ytgdcmebhopjfaaa
namespace Go.Proofs.Ytgdcmebhopjfaaa
open Go.RowKit

/-- A list of pairs of cells. -/
def cells2 (zs : List (Value × Value)) : List Value := zs.flatMap fun a => [a.1, a.2]
theorem cells2_nil : cells2 [] = [] := rfl
theorem cells2_length (zs : List (Value × Value)) : (cells2 zs).length = zs.length * 2 := by
  induction zs with
  | nil => rfl
  | cons a zs ih =>
    show (a.1 :: a.2 :: cells2 zs).length = _
    simp only [List.length_cons, ih]; omega
theorem cells2_get (l : List (Value × Value)) (k : Nat) (a : Value × Value) (h : l[k]? = some a) : (cells2 l)[k * 2]? = some a.1 ∧ (cells2 l)[k * 2 + 1]? = some a.2 := by
  induction l generalizing k with
  | nil => simp at h
  | cons b l ih =>
    have e : cells2 (b :: l) = b.1 :: b.2 :: cells2 l := rfl
    rw [e]
    cases k with
    | zero => simp at h; subst h; exact ⟨rfl, rfl⟩
    | succ k =>
      rw [List.getElem?_cons_succ] at h
      obtain ⟨h1, h2⟩ := ih k h
      refine ⟨?_, ?_⟩
      · rw [show (k + 1) * 2 = k * 2 + 1 + 1 by omega, List.getElem?_cons_succ, List.getElem?_cons_succ]; exact h1
      · rw [show (k + 1) * 2 + 1 = k * 2 + 1 + 1 + 1 by omega, List.getElem?_cons_succ, List.getElem?_cons_succ]; exact h2
theorem cells2_get' (l : List (Value × Value)) (j : Nat) (u : Value) (h : (cells2 l)[j]? = some u) : ∃ k a, l[k]? = some a ∧ ((j = k * 2 ∧ u = a.1) ∨ (j = k * 2 + 1 ∧ u = a.2)) := by
  have hj : j < l.length * 2 := by rw [← cells2_length]; exact (List.getElem?_eq_some_iff.1 h).1
  have hk : j / 2 < l.length := by omega
  refine ⟨j / 2, l[j / 2], List.getElem?_eq_getElem hk, ?_⟩
  obtain ⟨h1, h2⟩ := cells2_get l (j / 2) _ (List.getElem?_eq_getElem hk)
  rcases (by omega : j = j / 2 * 2 ∨ j = j / 2 * 2 + 1) with e | e
  · left; refine ⟨e, ?_⟩; rw [← e, h] at h1; exact Option.some.inj h1
  · right; refine ⟨e, ?_⟩; rw [← e, h] at h2; exact Option.some.inj h2
/-- Pairs of numbers that came in. -/
def PairsIn (k0 k1 : IntKind) (w : World) (ao : Option Addr) (len : Nat) (zs : List (Int × Int)) : Prop :=
  zs.length = len ∧ len ≤ 9223372036854775807 ∧ (∀ z ∈ zs, (Lit.int k0 z.1).wf = true ∧ (Lit.int k1 z.2).wf = true) ∧ Reads w ao (cells2 (zs.map fun z => (.int k0 z.1, .int k1 z.2)))
/-- Pairs of a truth and a number that came in. -/
def FlagsIn (k1 : IntKind) (w : World) (ao : Option Addr) (len : Nat) (zs : List (Bool × Int)) : Prop :=
  zs.length = len ∧ len ≤ 9223372036854775807 ∧ (∀ z ∈ zs, (Lit.int k1 z.2).wf = true) ∧ Reads w ao (cells2 (zs.map fun z => (.bool z.1, .int k1 z.2)))
theorem pairsIn_nil (k0 k1 : IntKind) (w : World) : PairsIn k0 k1 w none 0 [] := ⟨rfl, by omega, by simp, Reads.nil _ _⟩
theorem flagsIn_nil (k1 : IntKind) (w : World) : FlagsIn k1 w none 0 [] := ⟨rfl, by omega, by simp, Reads.nil _ _⟩
theorem PairsIn.below {k0 k1 : IntKind} {w w' : World} {ao : Option Addr} {n : Nat} {zs : List (Int × Int)} (h : PairsIn k0 k1 w ao n zs) (hb : Below w.heap.size w w') : PairsIn k0 k1 w' ao n zs := ⟨h.1, h.2.1, h.2.2.1, h.2.2.2.below hb⟩
theorem FlagsIn.below {k1 : IntKind} {w w' : World} {ao : Option Addr} {n : Nat} {zs : List (Bool × Int)} (h : FlagsIn k1 w ao n zs) (hb : Below w.heap.size w w') : FlagsIn k1 w' ao n zs := ⟨h.1, h.2.1, h.2.2.1, h.2.2.2.below hb⟩
theorem choose_list {α : Type} {p : Nat → α → Prop} : ∀ (n : Nat), (∀ i, i < n → ∃ a, p i a) → ∃ l : List α, l.length = n ∧ ∀ i a, l[i]? = some a → p i a
  | 0, _ => ⟨[], rfl, by simp⟩
  | n + 1, h => by
    obtain ⟨l, hl, hp⟩ := choose_list n fun i hi => h i (by omega)
    obtain ⟨a, ha⟩ := h n (by omega)
    refine ⟨l ++ [a], by simp [hl], fun i b hb => ?_⟩
    rw [List.getElem?_append] at hb
    split at hb
    · exact hp i b hb
    · rename_i hi
      by_cases hin : i = n
      · subst hin; rw [hl, Nat.sub_self] at hb; simp at hb; subst hb; exact ha
      · rw [List.getElem?_eq_none (by simp; omega)] at hb; cases hb
theorem pairs_of {w : World} {a : Addr} {len cap m : Nat} {α : Type} {g : α → Value × Value} {q : α → Prop} (hl : len ≤ cap) (hm : cap ≤ maxLen) (hmm : len ≤ m)
    (h : ∀ i, i < m → ∃ z, w.cell? (a.add (i * 2)) = some (g z).1 ∧ w.cell? (a.add (i * 2 + 1)) = some (g z).2 ∧ q z) :
    ∃ zs : List α, zs.length = len ∧ len ≤ 9223372036854775807 ∧ (∀ z ∈ zs, q z) ∧ Reads w (some a) (cells2 (zs.map g)) := by
  unfold maxLen at hm
  obtain ⟨l, hlen, hp⟩ := choose_list len fun i hi => h i (by omega)
  refine ⟨l, hlen, by omega, ?_, reads_of ?_⟩
  · intro z hz
    obtain ⟨i, hi⟩ := List.getElem?_of_mem hz
    exact (hp i z hi).2.2
  · intro i u hu
    obtain ⟨k, b, hk, hd⟩ := cells2_get' _ i u hu
    rw [List.getElem?_map] at hk
    cases hz : l[k]? with
    | none => rw [hz] at hk; simp at hk
    | some z =>
      rw [hz] at hk
      simp at hk
      subst hk
      rcases hd with ⟨rfl, rfl⟩ | ⟨rfl, rfl⟩
      · exact (hp k z hz).1
      · exact (hp k z hz).2.1
end Go.Proofs.Ytgdcmebhopjfaaa
namespace Go.Proofs.Ytgdcmebhopjfaaa
open Go.RowKit

theorem wpList_wanted {P : Program} {ops : Array Oper} {Q : Exit → Act → World → Prop} {a : Act} {w : World} {rest : List Oper} {o : Oper} (hw : Region.wanted o (yielded ops a.tmps) = true)
    (h : o.wp P a w (wpList P ops Q rest) Q) : wpList P ops Q (o :: rest) a w := by
  unfold wpList
  rw [if_pos hw]
  exact .inl h
theorem wp_app1 {P : Program} {W : World} {o : Oper} {a : Act} {K : Act → World → Prop} {Q : Exit → Act → World → Prop} (s x : Operand) (t : TypeId)
    (ho : o.op = .call { callee := .builtin .append, args := #[s, x], argTypes := #[t, t] })
    (base : Nat) (e : TypeId) (z : Value) (bytes : Nat) (ht : P.underlying t = some (.slice e)) (hE : ElemRow P e z 1 bytes)
    (v : Value) (n : Nat) (xs : List Value) (hs : a.eval s = v) (w0 : World) (hown : w0.ownsRow base e 1 v n xs)
    (u : Value) (hx : a.eval x = .slice (some ⟨w0.heap.size, 0, none⟩) 1 1) (h1 : u.oneCell' = true)
    (hW : Below (w0.heap.size + 1) (w0.alloc (.cells #[u] e)) W) (hsz : W.heap.size = w0.heap.size + 1)
    (h63 : n + 1 ≤ maxLen) (hbytes : (n + 1) * bytes ≤ 140737488355328) (hbase : base ≤ w0.heap.size)
    (h : ∀ g cap w', w'.ownsRow base e 1 (.slice (some ⟨g, 0, none⟩) (n + 1) cap) (n + 1) (xs ++ [u]) → (w0.alloc (.cells #[u] e)).grownBy w' v.ownBlock → Below base w0 w' →
      (v.ownBlock = some g ∨ g = w0.heap.size + 1) → g < w'.heap.size → K (a.put o.dst (.slice (some ⟨g, 0, none⟩) (n + 1) cap)) w') :
    Oper.wp P o a W K Q := by
  obtain ⟨i, hi, hz, hsize, hby, hzs, hsz1⟩ := hE
  have hW2 : Below (w0.alloc (.cells #[u] e)).heap.size (w0.alloc (.cells #[u] e)) W := by rw [World.size_alloc]; exact hW
  have hnb : W.heap[w0.heap.size]? = some (.cells #[u] e) := by rw [hW.block _ (by omega)]; exact heap_alloc_new w0 _
  refine wp_append_lies W s x t ho base e i z 1 bytes ht hi hz hsize hby hzs hsz1 v n xs hs (own_below (hown.alloc _) hW2) ⟨w0.heap.size, 0, none⟩ 1 1 [u] hx (by simp) (World.news_of_block hnb) (by intro q hq; simp at hq; subst hq; exact h1) (by omega) h63 hbytes (by omega) (w0.heap.size + 1) hsz ?_
  intro g cap w' hown' hgr hat hlt
  have hgr2 : (w0.alloc (.cells #[u] e)).grownBy w' v.ownBlock := ⟨hgr.os.trans hW.os, hgr.tape.trans hW.tape, hgr.output.trans hW.output, by rw [World.size_alloc]; have := hgr.size; omega, fun k hk hne => by
    rw [World.size_alloc] at hk
    rw [hgr.block k (by omega) hne, hW.block k hk]⟩
  exact h g cap w' hown' hgr2 (((Below.refl base w0).alloc hbase _).grown hgr2 (by rw [World.size_alloc]; omega) fun k hk => (hown.lt k hk).1) hat hlt
/-- 'append(s, x)' of one cell where the operation is guarded, and wanted. -/
theorem app_guarded {P : Program} {w : World} {ops : Array Oper} {rest : List Oper} {o : Oper} {a : Act} {Q : Exit → Act → World → Prop} (hw : Region.wanted o (yielded ops a.tmps) = true) (s x : Operand) (t : TypeId)
    (ho : o.op = .call { callee := .builtin .append, args := #[s, x], argTypes := #[t, t] })
    (base : Nat) (e : TypeId) (z : Value) (bytes : Nat) (ht : P.underlying t = some (.slice e)) (hE : ElemRow P e z 1 bytes)
    (v : Value) (n : Nat) (xs : List Value) (hs : a.eval s = v) (hown : w.ownsRow base e 1 v n xs)
    (u : Value) (hx : a.eval x = .slice (some ⟨w.heap.size, 0, none⟩) 1 1) (h1 : u.oneCell' = true)
    (h63 : n + 1 ≤ maxLen) (hbytes : (n + 1) * bytes ≤ 140737488355328) (hbase : base ≤ w.heap.size)
    (h : ∀ g cap w', w'.ownsRow base e 1 (.slice (some ⟨g, 0, none⟩) (n + 1) cap) (n + 1) (xs ++ [u]) → Below base w w' → wpList P ops Q rest (a.put o.dst (.slice (some ⟨g, 0, none⟩) (n + 1) cap)) w') :
    wpList P ops Q (o :: rest) a (w.alloc (.cells #[u] e)) :=
  wpList_wanted hw (wp_app1 s x t ho base e z bytes ht hE v n xs hs w hown u hx h1 (Below.refl _ _) (by simp) h63 hbytes hbase fun g cap w' h2 _ h4 _ _ => h g cap w' h2 h4)
end Go.Proofs.Ytgdcmebhopjfaaa
namespace Go.Proofs.Ytgdcmebhopjfaaa
open Go.RowKit

theorem below_drew1 {B : Nat} {w w' : World} (h : Below B w w') : Below B w w'.drew := below_drewN h 1
theorem heap_new' (w : World) (o : Obj) (k : Nat) (hk : w.heap.size = k) : (w.alloc o).heap[k]? = some o := by subst hk; exact heap_alloc_new w o
theorem heap_drew {w : World} {k : Nat} {b : Obj} (h : w.heap[k]? = some b) : w.drew.heap[k]? = some b := h
theorem heap_drewN {w : World} {n k : Nat} {b : Obj} (h : w.heap[k]? = some b) : (w.drewN n).heap[k]? = some b := h
theorem heap_alloc_old (w : World) (o : Obj) {k : Nat} {b : Obj} (h : w.heap[k]? = some b) : (w.alloc o).heap[k]? = some b := by
  have := (Array.getElem?_eq_some_iff.1 h).1
  show (w.heap.push o)[k]? = _
  rw [Array.getElem?_push, if_neg (by omega)]; exact h
theorem heap_grown_old {w w' : World} {r : Option Nat} {k : Nat} {b : Obj} (hg : w.grownBy w' r) (h : w.heap[k]? = some b) (hne : some k ≠ r) : w'.heap[k]? = some b := by
  rw [hg.block k (Array.getElem?_eq_some_iff.1 h).1 hne]; exact h
theorem ownBlock_ne {w : World} {base e size : Nat} {v : Value} {n : Nat} {xs : List Value} (h : w.ownsRow base e size v n xs) {k : Nat} (hk : w.heap.size ≤ k) : some k ≠ v.ownBlock := by
  intro he
  have := (h.lt k he.symm).2
  omega
theorem step_app_two {P : Program} {W : World} {ops : Array Oper} {o : Oper} {a : Act} {K : Act → World → Prop} {Q : Exit → Act → World → Prop} {E : Prop} (hgd : o.guard = none) (s x : Operand) (t : TypeId)
    (ho : o.op = .call { callee := .builtin .append, args := #[s, x], argTypes := #[t, t] })
    (base : Nat) (e : TypeId) (z : Value) (bytes : Nat) (ht : P.underlying t = some (.slice e)) (hE : ElemRow P e z 1 bytes)
    (v : Value) (n : Nat) (xs : List Value) (hs : a.eval s = v) (w0 : World) (hown : w0.ownsRow base e 1 v n xs)
    (e2 : TypeId) (v2 : Value) (m : Nat) (ys : List Value) (hoth : w0.ownsRow base e2 1 v2 m ys) (hap : Apart v v2)
    (wb : World) (hb : Below base wb w0) (hbs : base ≤ wb.heap.size) (hW : Below w0.heap.size w0 W)
    (q : Nat) (u : Value) (hx : a.eval x = .slice (some ⟨q, 0, none⟩) 1 1) (hq : W.heap[q]? = some (.cells #[u] e)) (h1 : u.oneCell' = true)
    (h63 : n + 1 ≤ maxLen) (hbytes : (n + 1) * bytes ≤ 140737488355328)
    (h : ∀ g cap w', w'.ownsRow base e 1 (.slice (some ⟨g, 0, none⟩) (n + 1) cap) (n + 1) (xs ++ [u]) → w'.ownsRow base e2 1 v2 m ys → Apart (.slice (some ⟨g, 0, none⟩) (n + 1) cap) v2 → Below base wb w' →
      W.grownBy w' v.ownBlock → K (a.put o.dst (.slice (some ⟨g, 0, none⟩) (n + 1) cap)) w') :
    if Region.wanted o (yielded ops a.tmps) = true then Oper.wp P o a W K Q else E := by
  obtain ⟨i, hi, hz, hsize, hby, hzs, hsz1⟩ := hE
  have hownW := own_below hown hW
  have hothW := own_below hoth hW
  have hbW : Below base wb W := hb.trans (Below.mono hW hb.size |>.mono (by omega))
  refine step_append_lies W hgd s x t ho base e i z 1 bytes ht hi hz hsize hby hzs hsz1 v n xs hs hownW ⟨q, 0, none⟩ 1 1 [u] hx (by simp) (World.news_of_block hq) (by intro q hq; simp at hq; subst hq; exact h1) (by omega) h63 hbytes (Nat.le_trans hbs hbW.size) W.heap.size rfl ?_
  intro g cap w' hown' hgr hat hlt
  refine h g cap w' hown' (hothW.kept hgr ?_) (hap.grow (k := W.heap.size) ?_ fun g hg => (hothW.lt g hg).2) (hbW.grown hgr (Nat.le_trans hbs hbW.size) fun k hk => (hown.lt k hk).1) hgr
  · cases hu : v2.ownBlock with
    | none => exact .inl rfl
    | some g => right; intro hv; exact hap g hv.symm hu
  · rcases hat with h | h
    · exact .inl h.symm
    · right; rw [h]; rfl
end Go.Proofs.Ytgdcmebhopjfaaa
namespace Go.Proofs.Ytgdcmebhopjfaaa
open Go.RowKit

abbrev Pts := List (Int × Int)
def pV (z : Int × Int) : Value × Value := (.int .i64 z.1, .int .i64 z.2)
abbrev pA (z : Int × Int) : Value := .agg #[.int .i64 z.1, .int .i64 z.2]
theorem pair_cells {w : World} {ao : Option Addr} {zs : Pts} (h : Reads w ao (cells2 (zs.map pV))) {i : Nat} {z : Int × Int} (hz : zs[i]? = some z) :
    ∃ b o, ao = some ⟨b, o, none⟩ ∧ w.cell? ⟨b, o + i * 2, none⟩ = some (.int .i64 z.1) ∧ w.cell? ⟨b, o + i * 2 + 1, none⟩ = some (.int .i64 z.2) := by
  obtain ⟨h1, h2⟩ := cells2_get (zs.map pV) i (pV z) (by rw [List.getElem?_map, hz]; rfl)
  obtain ⟨b, o, ha, hc⟩ := h _ _ h1
  obtain ⟨b2, o2, ha2, hc2⟩ := h _ _ h2
  rw [ha] at ha2
  injection ha2 with ha2
  injection ha2 with e1 e2
  subst e1 e2
  exact ⟨b, o, ha, hc, by rw [Nat.add_assoc]; exact hc2⟩
theorem pair_take {w : World} {ao : Option Addr} {zs : Pts} (h : Reads w ao (cells2 (zs.map pV))) (m : Nat) : Reads w ao (cells2 ((zs.take m).map pV)) := by
  intro j u hu
  obtain ⟨k, a, hk, hd⟩ := cells2_get' _ j u hu
  have hk2 : (zs.map pV)[k]? = some a := by
    rw [List.map_take, List.getElem?_take] at hk
    split at hk
    · exact hk
    · simp at hk
  obtain ⟨h1, h2⟩ := cells2_get (zs.map pV) k a hk2
  rcases hd with ⟨rfl, rfl⟩ | ⟨rfl, rfl⟩
  · exact h _ _ h1
  · exact h _ _ h2
def idxP (p : Int × Int → Bool) (zs : Pts) : Int := match zs.findIdx? p with | some i => (i : Int) | none => -1
theorem idxP_none {p : Int × Int → Bool} {zs : Pts} (h : ∀ x ∈ zs, p x = false) : idxP p zs = -1 := by
  unfold idxP
  rw [List.findIdx?_eq_none_iff.2 (by simpa using h)]
theorem idxP_some {p : Int × Int → Bool} {zs : Pts} {k : Nat} {x : Int × Int} (hk : zs[k]? = some x) (hx : p x = true) (h : ∀ j y, j < k → zs[j]? = some y → p y = false) : idxP p zs = k := by
  have : zs.findIdx? p = some k := by
    rw [List.findIdx?_eq_some_iff_getElem]
    obtain ⟨hl, he⟩ := List.getElem?_eq_some_iff.1 hk
    refine ⟨hl, by rw [he]; exact hx, fun j hj => ?_⟩
    have := h j _ hj (List.getElem?_eq_getElem (by omega))
    simp [this]
  unfold idxP
  rw [this]
theorem idxP_nonneg (p : Int × Int → Bool) (zs : Pts) : decide (0 ≤ idxP p zs) = zs.any p := by
  unfold idxP
  cases h : zs.findIdx? p with
  | none =>
    have h2 := List.findIdx?_eq_none_iff.1 h
    have : zs.any p = false := by simpa using h2
    rw [this]; rfl
  | some i =>
    have h2 := List.findIdx?_eq_some_iff_getElem.1 h
    obtain ⟨hl, hp, _⟩ := h2
    have : zs.any p = true := List.any_eq_true.2 ⟨_, List.getElem_mem hl, hp⟩
    rw [this]; simp
set_option maxRecDepth 20000 in
set_option maxHeartbeats 400000 in
theorem indexFunc_ptc (fn : FuncId) (c : Value) (hfn : ∀ (x : Value) (W : World), (callFunc fn #[x, c]).run Try.prog W = .ok (.enter fn #[x, c]) W) (p : Int × Int → Bool) (zs : Pts) (len : Nat) (ao : Option Addr) (cap : Nat) (w : World) (hlen : zs.length = len) (hl : len ≤ 9223372036854775807) (hR : Hid (Reads w ao (cells2 (zs.map pV))))
    (hf : Hid (∀ x ∈ zs, ∀ W, Below w.heap.size w W → Calls Try.prog fn #[pA x, c] W fun e w' => e = .returned (.bool (p x)) ∧ Below W.heap.size W w')) :
    Calls Try.prog 148 #[.slice ao len cap, .func (.func fn) #[] #[c]] w fun e w' => e = .returned (.int .i64 (idxP p zs)) ∧ Below w.heap.size w w' := by
  have HL := Lib.hid hlen
  clear hlen
  go_enter Try.func148, Try.ntmps148
  go_wp2_with fail
  go_loopw [8] (fun vi wr => ∃ k : Nat, vi = .int .i64 k ∧ k ≤ len ∧ Hid (∀ j y, j < k → zs[j]? = some y → p y = false) ∧ Hid (Below w.heap.size w wr)) (fun vi _ => len - (intOf vi).toNat)
  case atStart => exact ⟨0, rfl, by omega, by intro j y hj; omega, Below.refl _ _⟩
  case round =>
    obtain ⟨k, rfl, hk, hno, hb⟩ := hrel
    by_cases hkl : k < len
    · obtain ⟨x, hx⟩ : ∃ x, zs[k]? = some x := ⟨zs[k]'(by rw [HL.out]; exact hkl), List.getElem?_eq_getElem _⟩
      obtain ⟨b, o, rfl, c1, c2⟩ := pair_cells (hR.out.below hb.out) hx
      have HX := Lib.hid hx
      have hcall := Lib.hid (hf.out x (List.mem_of_getElem? hx) wr hb.out)
      clear hx
      cases hp : p x with
      | true =>
        have HP := Lib.hid hp
        rw [hp] at hcall
        clear hp
        go_wp2_with fail
        refine hcall.out.mono ?_
        rintro e w' ⟨rfl, hb2⟩
        go_wp2
        go_ret
        exact ⟨ret_int (idxP_some HX.out HP.out hno.out).symm, hb.out.trans (hb2.mono hb.out.size)⟩
      | false =>
        have HP := Lib.hid hp
        rw [hp] at hcall
        clear hp
        go_wp2_with fail
        refine hcall.out.mono ?_
        rintro e w' ⟨rfl, hb2⟩
        have HB2 := Lib.hid (hb.out.trans (hb2.mono hb.out.size))
        clear hb2
        go_wp2
        go_roundw
        case rel => exact ⟨k + 1, by go_num, by omega, by
          intro j y hj hy
          by_cases he : j = k
          · subst he; rw [HX.out] at hy; cases hy; exact HP.out
          · exact hno.out j y (by omega) hy, HB2⟩
        case measure => simp [intOf]; omega
    · obtain rfl : k = len := by omega
      go_wp2
      go_ret
      refine ⟨ret_int (idxP_none fun x hx => ?_).symm, hb.out⟩
      obtain ⟨j, hj⟩ := List.getElem?_of_mem hx
      have := (List.getElem?_eq_some_iff.1 hj).1
      exact hno.out j x (by have := HL.out; omega) hj
set_option maxHeartbeats 400000 in
theorem containsFunc_ptc (fn : FuncId) (c : Value) (hfn : ∀ (x : Value) (W : World), (callFunc fn #[x, c]).run Try.prog W = .ok (.enter fn #[x, c]) W) (p : Int × Int → Bool) (zs : Pts) (len : Nat) (ao : Option Addr) (cap : Nat) (w : World) (hlen : zs.length = len) (hl : len ≤ 9223372036854775807) (hR : Hid (Reads w ao (cells2 (zs.map pV))))
    (hf : Hid (∀ x ∈ zs, ∀ W, Below w.heap.size w W → Calls Try.prog fn #[pA x, c] W fun e w' => e = .returned (.bool (p x)) ∧ Below W.heap.size W w')) :
    Calls Try.prog 84 #[.slice ao len cap, .func (.func fn) #[] #[c]] w fun e w' => e = .returned (.bool (zs.any p)) ∧ Below w.heap.size w w' := by
  go_enter Try.func84, Try.ntmps84
  go_wp2_with (go_at_call 148; refine (indexFunc_ptc fn c hfn p zs len ao cap w hlen hl hR hf).mono ?_; rintro e w' ⟨rfl, hb⟩)
  go_ret
  exact ⟨ret_bool (idxP_nonneg p zs), hb⟩
set_option maxRecDepth 20000 in
set_option maxHeartbeats 400000 in
theorem indexFunc_pt (fn : FuncId) (hfn : ∀ (x : Value) (W : World), (callFunc fn #[x]).run Try.prog W = .ok (.enter fn #[x]) W) (p : Int × Int → Bool) (zs : Pts) (len : Nat) (ao : Option Addr) (cap : Nat) (w : World) (hlen : zs.length = len) (hl : len ≤ 9223372036854775807) (hR : Hid (Reads w ao (cells2 (zs.map pV))))
    (hf : Hid (∀ x ∈ zs, ∀ W, Below w.heap.size w W → Calls Try.prog fn #[pA x] W fun e w' => e = .returned (.bool (p x)) ∧ Below W.heap.size W w')) :
    Calls Try.prog 148 #[.slice ao len cap, .func (.func fn) #[] #[]] w fun e w' => e = .returned (.int .i64 (idxP p zs)) ∧ Below w.heap.size w w' := by
  have HL := Lib.hid hlen
  clear hlen
  go_enter Try.func148, Try.ntmps148
  go_wp2_with fail
  go_loopw [8] (fun vi wr => ∃ k : Nat, vi = .int .i64 k ∧ k ≤ len ∧ Hid (∀ j y, j < k → zs[j]? = some y → p y = false) ∧ Hid (Below w.heap.size w wr)) (fun vi _ => len - (intOf vi).toNat)
  case atStart => exact ⟨0, rfl, by omega, by intro j y hj; omega, Below.refl _ _⟩
  case round =>
    obtain ⟨k, rfl, hk, hno, hb⟩ := hrel
    by_cases hkl : k < len
    · obtain ⟨x, hx⟩ : ∃ x, zs[k]? = some x := ⟨zs[k]'(by rw [HL.out]; exact hkl), List.getElem?_eq_getElem _⟩
      obtain ⟨b, o, rfl, c1, c2⟩ := pair_cells (hR.out.below hb.out) hx
      have HX := Lib.hid hx
      have hcall := Lib.hid (hf.out x (List.mem_of_getElem? hx) wr hb.out)
      clear hx
      cases hp : p x with
      | true =>
        have HP := Lib.hid hp
        rw [hp] at hcall
        clear hp
        go_wp2_with fail
        refine hcall.out.mono ?_
        rintro e w' ⟨rfl, hb2⟩
        go_wp2
        go_ret
        exact ⟨ret_int (idxP_some HX.out HP.out hno.out).symm, hb.out.trans (hb2.mono hb.out.size)⟩
      | false =>
        have HP := Lib.hid hp
        rw [hp] at hcall
        clear hp
        go_wp2_with fail
        refine hcall.out.mono ?_
        rintro e w' ⟨rfl, hb2⟩
        have HB2 := Lib.hid (hb.out.trans (hb2.mono hb.out.size))
        clear hb2
        go_wp2
        go_roundw
        case rel => exact ⟨k + 1, by go_num, by omega, by
          intro j y hj hy
          by_cases he : j = k
          · subst he; rw [HX.out] at hy; cases hy; exact HP.out
          · exact hno.out j y (by omega) hy, HB2⟩
        case measure => simp [intOf]; omega
    · obtain rfl : k = len := by omega
      go_wp2
      go_ret
      refine ⟨ret_int (idxP_none fun x hx => ?_).symm, hb.out⟩
      obtain ⟨j, hj⟩ := List.getElem?_of_mem hx
      have := (List.getElem?_eq_some_iff.1 hj).1
      exact hno.out j x (by have := HL.out; omega) hj
set_option maxHeartbeats 400000 in
theorem containsFunc_pt (fn : FuncId) (hfn : ∀ (x : Value) (W : World), (callFunc fn #[x]).run Try.prog W = .ok (.enter fn #[x]) W) (p : Int × Int → Bool) (zs : Pts) (len : Nat) (ao : Option Addr) (cap : Nat) (w : World) (hlen : zs.length = len) (hl : len ≤ 9223372036854775807) (hR : Hid (Reads w ao (cells2 (zs.map pV))))
    (hf : Hid (∀ x ∈ zs, ∀ W, Below w.heap.size w W → Calls Try.prog fn #[pA x] W fun e w' => e = .returned (.bool (p x)) ∧ Below W.heap.size W w')) :
    Calls Try.prog 84 #[.slice ao len cap, .func (.func fn) #[] #[]] w fun e w' => e = .returned (.bool (zs.any p)) ∧ Below w.heap.size w w' := by
  go_enter Try.func84, Try.ntmps84
  go_wp2_with (go_at_call 148; refine (indexFunc_pt fn hfn p zs len ao cap w hlen hl hR hf).mono ?_; rintro e w' ⟨rfl, hb⟩)
  go_ret
  exact ⟨ret_bool (idxP_nonneg p zs), hb⟩
end Go.Proofs.Ytgdcmebhopjfaaa
namespace Go.Proofs.Ytgdcmebhopjfaaa

def IsPr (n : Nat) : Prop := 2 ≤ n ∧ ∀ d, 2 ≤ d → d < n → ¬ d ∣ n
noncomputable def prB (n : Nat) : Bool := @decide (IsPr n) (Classical.propDecidable _)
theorem prB_iff {n : Nat} : prB n = true ↔ IsPr n := by unfold prB; exact @decide_eq_true_iff _ (Classical.propDecidable _)
theorem prB_iff' {n : Nat} : prB n = false ↔ ¬ IsPr n := by unfold prB; exact @decide_eq_false_iff_not _ (Classical.propDecidable _)

theorem prB_true {n : Nat} (h : IsPr n) : prB n = true := prB_iff.2 h
theorem prB_false {n : Nat} (h : ¬ IsPr n) : prB n = false := prB_iff'.2 h
/-- No number from 2 on and below d divides n. -/
def NoDiv (n d : Nat) : Prop := ∀ e, 2 ≤ e → e < d → ¬ e ∣ n
theorem NoDiv.start (n : Nat) : NoDiv n 2 := fun e h1 h2 => by omega
theorem NoDiv.next {n d : Nat} (h : NoDiv n d) (hd : ¬ d ∣ n) : NoDiv n (d + 1) := by
  intro e h1 h2
  by_cases he : e = d
  · subst he; exact hd
  · exact h e h1 (by omega)
theorem NoDiv.prime {n d : Nat} (h : NoDiv n d) (hn : 2 ≤ n) (hd : n < d * d) : IsPr n := by
  refine ⟨hn, fun e h1 h2 hdv => ?_⟩
  obtain ⟨c, hc⟩ := hdv
  have hc2 : 2 ≤ c := by
    rcases Nat.lt_or_ge c 2 with h3 | h3
    · have : c = 0 ∨ c = 1 := by omega
      rcases this with h4 | h4
      · subst h4; omega
      · subst h4; omega
    · exact h3
  by_cases hed : e < d
  · exact h e h1 hed ⟨c, hc⟩
  · by_cases hcd : c < d
    · exact h c hc2 hcd ⟨e, by rw [hc, Nat.mul_comm]⟩
    · have : d * d ≤ e * c := Nat.mul_le_mul (by omega) (by omega)
      omega
theorem NoDiv.notPrime {n d : Nat} (hd : 2 ≤ d) (h2 : d * d ≤ n) (hdv : d ∣ n) : ¬ IsPr n := by
  intro h
  refine h.2 d hd ?_ hdv
  have : d * 2 ≤ d * d := Nat.mul_le_mul_left d hd
  omega
/-- A divisor below which there is none is prime. -/
theorem NoDiv.divisor {n d : Nat} (h : NoDiv n d) (hd : 2 ≤ d) (hdv : d ∣ n) : IsPr d :=
  ⟨hd, fun e h1 h2 h3 => h e h1 h2 (Nat.dvd_trans h3 hdv)⟩
theorem NoDiv.of_dvd {n m d : Nat} (h : NoDiv n d) (hm : m ∣ n) : NoDiv m d := fun e h1 h2 h3 => h e h1 h2 (Nat.dvd_trans h3 hm)
theorem NoDiv.ge {n d : Nat} (h : NoDiv n d) (hn : 2 ≤ n) : d ≤ n := by
  rcases Nat.lt_or_ge n d with h1 | h1
  · exact absurd ⟨1, by simp⟩ (h n hn h1)
  · exact h1
theorem isPr_small (n : Nat) (h : n < 4) : IsPr n ↔ n = 2 ∨ n = 3 := by
  constructor
  · intro h1; have := h1.1; omega
  · rintro (h1 | h1)
    · subst h1; exact ⟨by omega, fun d h2 h3 => by omega⟩
    · subst h1
      refine ⟨by omega, fun d h2 h3 h4 => ?_⟩
      obtain rfl : d = 2 := by omega
      omega
/-- Numbers that neither 2 nor 3 divides: six by six. -/
theorem NoDiv.six {n d : Nat} (h : NoDiv n d) (h2 : ¬ 2 ∣ n) (h3 : ¬ 3 ∣ n) (hd : d % 6 = 5) (hd1 : ¬ d ∣ n) (hd2 : ¬ (d + 2) ∣ n) : NoDiv n (d + 6) := by
  have e2 : ∀ e, e % 2 = 0 → ¬ e ∣ n := fun e he hdv => h2 (Nat.dvd_trans (by omega) hdv)
  have e3 : ∀ e, e % 3 = 0 → ¬ e ∣ n := fun e he hdv => h3 (Nat.dvd_trans (by omega) hdv)
  have s1 := h.next hd1
  have s2 := s1.next (e2 (d + 1) (by omega))
  have s3 := s2.next hd2
  have s4 := s3.next (e2 (d + 3) (by omega))
  have s5 := s4.next (e3 (d + 4) (by omega))
  exact s5.next (e2 (d + 5) (by omega))
theorem NoDiv.five {n : Nat} (h2 : ¬ 2 ∣ n) (h3 : ¬ 3 ∣ n) : NoDiv n 5 := by
  intro e h4 h5 h6
  have : e = 2 ∨ e = 3 ∨ e = 4 := by omega
  rcases this with h | h | h
  · subst h; exact h2 h6
  · subst h; exact h3 h6
  · subst h; exact h2 (Nat.dvd_trans (by omega) h6)
theorem notPr_of_dvd {n d : Nat} (h1 : 2 ≤ d) (h2 : d < n) (h3 : d ∣ n) : ¬ IsPr n := fun h => h.2 d h1 h2 h3
end Go.Proofs.Ytgdcmebhopjfaaa
namespace Go.Proofs.Ytgdcmebhopjfaaa
open Go.RowKit

theorem sq_int (d : Nat) (M : Nat) (h : d ≤ M) : 0 ≤ (d : Int) * d ∧ (d : Int) * d ≤ (M : Int) * M := by
  have h1 : d * d ≤ M * M := Nat.mul_le_mul h h
  have h2 : ((d * d : Nat) : Int) = (d : Int) * d := by push_cast; rfl
  have h3 : ((M * M : Nat) : Int) = (M : Int) * M := by push_cast; rfl
  omega
theorem dvd_beq (n d : Nat) (h : d ∣ n) : ((n : Int) % (d : Int) == 0) = true := by
  have : ((n % d : Nat) : Int) = 0 := by rw [Nat.mod_eq_zero_of_dvd h]; rfl
  rw [Int.natCast_emod] at this
  simp [this]
theorem ndvd_beq (n d : Nat) (h : ¬ d ∣ n) : ((n : Int) % (d : Int) == 0) = false := by
  have h1 : n % d ≠ 0 := fun h2 => h (Nat.dvd_of_mod_eq_zero h2)
  have : ((n : Int) % (d : Int)) = ((n % d : Nat) : Int) := rfl
  rw [this]
  simp; omega
theorem le_sq {n d : Nat} (h : (d : Int) * d ≤ n) : d * d ≤ n := by
  have h2 : ((d * d : Nat) : Int) = (d : Int) * d := by push_cast; rfl
  omega
theorem lt_sq {n d : Nat} (h : ¬ (d : Int) * d ≤ n) : n < d * d := by
  have h2 : ((d * d : Nat) : Int) = (d : Int) * d := by push_cast; rfl
  omega

set_option maxHeartbeats 400000 in
theorem prime_is (n : Nat) (w : World) (hn : n ≤ 1000000) :
    Calls Try.prog 170 #[.int .i64 n] w fun e w' => e = .returned (.bool (prB n)) ∧ w = w' := by
  go_enter Try.func170, Try.ntmps170
  go_wp2_with fail
  go_loop [3] (fun vd => ∃ d : Nat, vd = .int .i64 d ∧ 2 ≤ d ∧ d ≤ 1001 ∧ Hid (NoDiv n d)) (fun vd => 1001 - (intOf vd).toNat)
  case atStart => exact ⟨2, rfl, by omega, by omega, NoDiv.start n⟩
  case round =>
    obtain ⟨d, rfl, hd, hd2, hno⟩ := hrel
    obtain ⟨p0, p1⟩ := sq_int d 1001 hd2
    by_cases hsq : (d : Int) * d ≤ n
    · have hd3 : d ≤ 1000 := by
        rcases Nat.lt_or_ge 1000 d with h | h
        · have := Nat.mul_le_mul (show 1001 ≤ d from h) (show 1001 ≤ d from h); have := le_sq hsq; omega
        · exact h
      by_cases hdv : d ∣ n
      · have ht := dvd_beq n d hdv
        have hR := Lib.hid (prB_false (NoDiv.notPrime hd (le_sq hsq) hdv))
        clear hdv
        go_wp2
        go_ret
        exact ⟨ret_bool hR.out.symm, rfl⟩
      · have ht := ndvd_beq n d hdv
        have hN := Lib.hid (hno.out.next hdv)
        clear hdv
        go_wp2
        go_round
        case rel => exact ⟨d + 1, by go_num, by omega, by omega, hN⟩
        case measure => simp [intOf]; omega
    · have hlt := lt_sq hsq
      have hR : Hid (decide ((1 : Int) < n) = prB n) := by
        show _ = _
        by_cases h1 : 2 ≤ n
        · rw [prB_true (hno.out.prime h1 hlt)]; simp; omega
        · rw [prB_false (fun h => h1 h.1)]; simp; omega
      clear hlt
      go_wp2
      go_ret
      exact ⟨ret_bool hR.out, rfl⟩

set_option maxHeartbeats 400000 in
theorem prime_Is (n : Nat) (w : World) (hn : n ≤ 1000000) :
    Calls Try.prog 142 #[.int .i64 n] w fun e w' => e = .returned (.tuple #[.bool (prB n), .int .i64 0]) ∧ w = w' := by
  have h1 : decide ((1000000 : Int) < n) = false := by simp; omega
  go_enter Try.func142, Try.ntmps142
  go_wp2_with (go_at_call 170; refine (prime_is n _ hn).mono ?_; rintro e w' ⟨rfl, rfl⟩)
  go_ret2
  exact ⟨rfl, rfl⟩
set_option maxHeartbeats 400000 in
theorem prime_Is_bad (n : Int) (w : World) (hn : n < 0 ∨ 1000000 < n) :
    Calls Try.prog 142 #[.int .i64 n] w fun e w' => e = .returned (.tuple #[.bool false, .int .i64 1]) ∧ w = w' := by
  by_cases h : n < 0
  · go_enter Try.func142, Try.ntmps142
    go_wp2_with fail
    go_ret2
    exact ⟨rfl, rfl⟩
  · have h1 : decide (1000000 < n) = true := by simp; omega
    go_enter Try.func142, Try.ntmps142
    go_wp2_with fail
    go_ret2
    exact ⟨rfl, rfl⟩

/-- The first prime from n on, up to a million. -/
def IsNext (n p : Nat) : Prop := n ≤ p ∧ p ≤ 1000000 ∧ IsPr p ∧ ∀ q, n ≤ q → q < p → ¬ IsPr q
def NoNext (n : Nat) : Prop := ∀ q, n ≤ q → q ≤ 1000000 → ¬ IsPr q
noncomputable def nextI (n : Nat) : Int × Int := @ite _ (∃ p, IsNext n p) (Classical.propDecidable _) (((Classical.epsilon (IsNext n) : Nat) : Int), 0) (0, 4)
theorem IsNext.uniq {n p q : Nat} (h : IsNext n p) (k : IsNext n q) : p = q := by
  rcases Nat.lt_trichotomy p q with h1 | h1 | h1
  · exact absurd h.2.2.1 (k.2.2.2 p h.1 h1)
  · exact h1
  · exact absurd k.2.2.1 (h.2.2.2 q k.1 h1)
theorem nextI_some {n p : Nat} (h : IsNext n p) : nextI n = ((p : Int), 0) := by
  unfold nextI
  rw [if_pos ⟨p, h⟩, (Classical.epsilon_spec (p := IsNext n) ⟨p, h⟩).uniq h]
theorem nextI_none {n : Nat} (h : NoNext n) : nextI n = (0, 4) := by
  unfold nextI
  rw [if_neg]
  rintro ⟨p, h1, h2, h3, _⟩
  exact h p h1 h2 h3

set_option maxHeartbeats 1000000 in
theorem ref_Prime (n : Nat) (w : World) (hn : n ≤ 1000000) :
    Calls Try.prog 13 #[.int .i64 n] w fun e w' => e = .returned (.bool (prB n)) ∧ w = w' := by
  by_cases h4 : n < 4
  · have hR : Hid (((n : Int) == 2 || (n : Int) == 3) = prB n) := by
      show _ = _
      have h5 := isPr_small n h4
      by_cases h6 : IsPr n
      · rw [prB_true h6]; rcases h5.1 h6 with h7 | h7 <;> subst h7 <;> rfl
      · rw [prB_false h6]
        have : n ≠ 2 ∧ n ≠ 3 := by constructor <;> intro h7 <;> exact h6 (h5.2 (by omega))
        simp; omega
    by_cases h2 : n = 2
    · subst h2
      go_enter Try.func13, Try.ntmps13
      go_wp2_with fail
      go_ret
      exact ⟨by rw [← hR.out]; rfl, rfl⟩
    · have hz : ((n : Int) == 2) = false := by simp; omega
      go_enter Try.func13, Try.ntmps13
      go_wp2_with fail
      go_ret
      exact ⟨by rw [← hR.out, hz]; rfl, rfl⟩
  · by_cases h2 : 2 ∣ n
    · have t2 : ((n : Int) % 2 == 0) = true := dvd_beq n 2 h2
      have hR := Lib.hid (prB_false (notPr_of_dvd (by omega) (by omega) h2))
      clear h2
      go_enter Try.func13, Try.ntmps13
      go_wp2_with fail
      go_ret
      exact ⟨ret_bool hR.out.symm, rfl⟩
    · have t2 : ((n : Int) % 2 == 0) = false := ndvd_beq n 2 h2
      by_cases h3 : 3 ∣ n
      · have t3 : ((n : Int) % 3 == 0) = true := dvd_beq n 3 h3
        have hR := Lib.hid (prB_false (notPr_of_dvd (by omega) (by omega) h3))
        clear h2 h3
        go_enter Try.func13, Try.ntmps13
        go_wp2_with fail
        go_ret
        exact ⟨ret_bool hR.out.symm, rfl⟩
      · have t3 : ((n : Int) % 3 == 0) = false := ndvd_beq n 3 h3
        have H2 := Lib.hid h2
        have H3 := Lib.hid h3
        clear h2 h3
        go_enter Try.func13, Try.ntmps13
        go_wp2_with fail
        go_loop [3] (fun vd => ∃ d : Nat, vd = .int .i64 d ∧ 5 ≤ d ∧ d ≤ 1006 ∧ Hid (d % 6 = 5) ∧ Hid (NoDiv n d)) (fun vd => 1006 - (intOf vd).toNat)
        case atStart => exact ⟨5, rfl, by omega, by omega, by show _ = _; rfl, NoDiv.five H2.out H3.out⟩
        case round =>
          obtain ⟨d, rfl, hd, hd2, hmod, hno⟩ := hrel
          obtain ⟨p0, p1⟩ := sq_int d 1006 hd2
          by_cases hsq : (d : Int) * d ≤ n
          · have hd3 : d ≤ 1000 := by
              rcases Nat.lt_or_ge 1000 d with h | h
              · have := Nat.mul_le_mul (show 1001 ≤ d from h) (show 1001 ≤ d from h); have := le_sq hsq; omega
              · exact h
            have hlt : d * 5 ≤ n := Nat.le_trans (Nat.mul_le_mul_left d hd) (le_sq hsq)
            by_cases hdv : d ∣ n
            · have ht := dvd_beq n d hdv
              have hR := Lib.hid (prB_false (NoDiv.notPrime (by omega) (le_sq hsq) hdv))
              clear hdv hlt
              go_wp2_with fail
              go_ret
              exact ⟨ret_bool hR.out.symm, rfl⟩
            · have ht := ndvd_beq n d hdv
              by_cases hdv2 : (d + 2) ∣ n
              · have ht2 : ((n : Int) % ((d : Int) + 2) == 0) = true := dvd_beq n (d + 2) hdv2
                have hR := Lib.hid (prB_false (notPr_of_dvd (by omega) (by omega) hdv2))
                clear hdv hdv2 hlt
                go_wp2_with fail
                go_ret
                exact ⟨ret_bool hR.out.symm, rfl⟩
              · have ht2 : ((n : Int) % ((d : Int) + 2) == 0) = false := ndvd_beq n (d + 2) hdv2
                have hN := Lib.hid (hno.out.six H2.out H3.out hmod.out hdv hdv2)
                clear hdv hdv2 hlt
                go_wp2_with fail
                go_round
                case rel => exact ⟨d + 6, by go_num, by omega, by omega, by have := hmod.out; show _ = _; omega, hN⟩
                case measure => simp [intOf]; omega
          · have hR := Lib.hid (prB_true (hno.out.prime (by omega) (lt_sq hsq)))
            go_wp2_with fail
            go_ret
            exact ⟨ret_bool hR.out.symm, rfl⟩
end Go.Proofs.Ytgdcmebhopjfaaa
namespace Go.Proofs.Ytgdcmebhopjfaaa
open Go.RowKit

set_option maxRecDepth 20000 in
set_option maxHeartbeats 400000 in
theorem indexFunc_cap (fn : FuncId) (c : Value) (hfn : ∀ (x : Value) (W : World), (callFunc fn #[x, c]).run Try.prog W = .ok (.enter fn #[x, c]) W) (p : Int → Bool) (zs : List Int) (ao : Option Addr) (cap : Nat) (w : World) (hl : zs.length ≤ 9223372036854775807) (hR : Hid (Reads w ao (zs.map (Value.int .i64))))
    (hf : Hid (∀ x ∈ zs, ∀ n, Calls Try.prog fn #[.int .i64 x, c] (w.drewN n) fun e w' => e = .returned (.bool (p x)) ∧ ∃ m, w' = (w.drewN n).drewN m)) :
    Calls Try.prog 143 #[.slice ao zs.length cap, .func (.func fn) #[] #[c]] w fun e w' => e = .returned (.int .i64 (idxI p zs)) ∧ ∃ n, w' = w.drewN n := by
  obtain ⟨len, hlen⟩ : ∃ n, zs.length = n := ⟨_, rfl⟩
  rw [hlen] at hl ⊢
  have HL := Lib.hid hlen
  clear hlen
  go_enter Try.func143, Try.ntmps143
  go_wp2_with fail
  go_loopw [8] (fun vi wr => ∃ k : Nat, vi = .int .i64 k ∧ k ≤ len ∧ Hid (∀ j y, j < k → zs[j]? = some y → p y = false) ∧ ∃ n, wr = w.drewN n) (fun vi _ => len - (intOf vi).toNat)
  case atStart => exact ⟨0, rfl, by omega, by intro j y hj; omega, 0, rfl⟩
  case round =>
    obtain ⟨k, rfl, hk, hno, n, rfl⟩ := hrel
    by_cases hkl : k < len
    · obtain ⟨x, hx⟩ : ∃ x, zs[k]? = some x := ⟨zs[k]'(by rw [HL.out]; exact hkl), List.getElem?_eq_getElem _⟩
      obtain ⟨b, o, rfl, hc⟩ := hR.out k (.int .i64 x) (by simp [hx])
      have HX := Lib.hid hx
      clear hx
      have hcall := Lib.hid (hf.out x (List.mem_of_getElem? HX.out))
      cases hp : p x with
      | true =>
        have HP := Lib.hid hp
        clear hp
        go_wp2_with fail
        refine (hcall.out n).mono ?_
        rw [HP.out]
        rintro e w' ⟨rfl, m, rfl⟩
        go_wp2
        go_ret
        exact ⟨ret_int (idxI_some HX.out HP.out hno.out).symm, _, rfl⟩
      | false =>
        have HP := Lib.hid hp
        clear hp
        go_wp2_with fail
        refine (hcall.out n).mono ?_
        rw [HP.out]
        rintro e w' ⟨rfl, m, rfl⟩
        go_wp2
        go_roundw
        case rel => exact ⟨k + 1, by go_num, by omega, by
          intro j y hj hy
          by_cases he : j = k
          · subst he; rw [HX.out] at hy; cases hy; exact HP.out
          · exact hno.out j y (by omega) hy, _, rfl⟩
        case measure => simp [intOf]; omega
    · obtain rfl : k = len := by omega
      go_wp2
      go_ret
      refine ⟨ret_int (idxI_none fun x hx => ?_).symm, _, rfl⟩
      obtain ⟨j, hj⟩ := List.getElem?_of_mem hx
      have := (List.getElem?_eq_some_iff.1 hj).1
      exact hno.out j x (by have := HL.out; omega) hj
set_option maxHeartbeats 400000 in
theorem containsFunc_cap (fn : FuncId) (c : Value) (hfn : ∀ (x : Value) (W : World), (callFunc fn #[x, c]).run Try.prog W = .ok (.enter fn #[x, c]) W) (p : Int → Bool) (zs : List Int) (ao : Option Addr) (cap : Nat) (w : World) (hl : zs.length ≤ 9223372036854775807) (hR : Hid (Reads w ao (zs.map (Value.int .i64))))
    (hf : Hid (∀ x ∈ zs, ∀ n, Calls Try.prog fn #[.int .i64 x, c] (w.drewN n) fun e w' => e = .returned (.bool (p x)) ∧ ∃ m, w' = (w.drewN n).drewN m)) :
    Calls Try.prog 77 #[.slice ao zs.length cap, .func (.func fn) #[] #[c]] w fun e w' => e = .returned (.bool (zs.any p)) ∧ ∃ n, w' = w.drewN n := by
  go_enter Try.func77, Try.ntmps77
  go_wp2_with (go_at_call 143; refine (indexFunc_cap fn c hfn p zs ao cap w hl hR hf).mono ?_; rintro e w' ⟨rfl, n, rfl⟩)
  go_ret
  exact ⟨ret_bool (idxI_nonneg p zs), _, rfl⟩
end Go.Proofs.Ytgdcmebhopjfaaa
