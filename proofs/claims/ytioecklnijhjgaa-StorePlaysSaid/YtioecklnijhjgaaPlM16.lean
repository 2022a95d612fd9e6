/- The store in memory: its block, its nodes, what they keep. -/
import Derived.Test.YtioecklnijhjgaaStoreM
import Derived.Test.YtioecklnijhjgaaPlM2
import Derived.Test.YtioecklnijhjgaaPlM0
import Derived.Test.YtioecklnijhjgaaRows
import Derived.Lib.BitFns
set_option linter.unusedVariables false
set_option linter.unusedSimpArgs false
namespace Go.Proofs.Ytioecklnijhjgaa
open Go.RowKit

theorem keptInfo : ElemRow Try.prog 50 (.agg #[.int .i64 0, .int .i64 0, .string ByteArray.empty]) 3 32 := elemRow_of (by kernel_rfl) rfl (by omega)
theorem nodeInfo : ElemRow Try.prog 77 (.agg #[.bool false, .slice none 0 0, .slice none 0 0, .slice none 0 0]) 4 80 := elemRow_of (by kernel_rfl) rfl (by omega)
theorem stampInfo : ElemRow Try.prog 38 (.agg #[.int .i64 0, .int .i64 0]) 2 16 := elemRow_of (by kernel_rfl) (by kernel_rfl) (by omega)
def kpC (x : Kp) : List Value := [.int .i64 (x.1 : Int), .int .i64 0, .string x.2]
def kpCells (l : List Kp) : List Value := l.flatMap kpC
theorem kpCells_len (l : List Kp) : (kpCells l).length = l.length * 3 := by
  unfold kpCells
  induction l with
  | nil => rfl
  | cons x t ih => rw [List.flatMap_cons, List.length_append, ih]; simp [kpC]; omega
theorem kpCells_snoc (l : List Kp) (x : Kp) : kpCells (l ++ [x]) = kpCells l ++ kpC x := by simp [kpCells]
theorem kpCells_one (l : List Kp) : ∀ u ∈ kpCells l, u.oneCell' = true := by
  intro u hu
  obtain ⟨x, _, hx⟩ := List.mem_flatMap.1 hu
  simp [kpC] at hx
  rcases hx with rfl | rfl | rfl <;> rfl
theorem kpCells_get {l : List Kp} {j : Nat} (h : j < l.length) : (kpCells l)[j * 3]? = some (.int .i64 ((l[j]).1 : Int)) ∧ (kpCells l)[j * 3 + 1]? = some (.int .i64 0) ∧ (kpCells l)[j * 3 + 2]? = some (.string (l[j]).2) := by
  induction l generalizing j with
  | nil => simp at h
  | cons x t ih =>
    cases j with
    | zero => exact ⟨rfl, rfl, rfl⟩
    | succ j =>
      have hj : j < t.length := by simpa using h
      obtain ⟨h1, h2, h3⟩ := ih hj
      have e : kpCells (x :: t) = kpC x ++ kpCells t := by simp [kpCells]
      have h4 : (kpC x).length = 3 := rfl
      rw [e]
      refine ⟨?_, ?_, ?_⟩
      · rw [List.getElem?_append_right (by rw [h4]; omega), h4, show (j + 1) * 3 - 3 = j * 3 by omega, h1]; rfl
      · rw [List.getElem?_append_right (by rw [h4]; omega), h4, show (j + 1) * 3 + 1 - 3 = j * 3 + 1 by omega, h2]
      · rw [List.getElem?_append_right (by rw [h4]; omega), h4, show (j + 1) * 3 + 2 - 3 = j * 3 + 2 by omega, h3]; rfl
def nodeF (dn : Nat → Bool) (V : Nat → Nat → Value) (t : Nat) : Value := if t % 4 = 0 then .bool (dn (t / 4)) else V (t / 4) (t % 4 - 1)
theorem nodeF_dn (dn : Nat → Bool) (V : Nat → Nat → Value) (i : Nat) : nodeF dn V (i * 4) = .bool (dn i) := by
  unfold nodeF
  rw [if_pos (by omega), show i * 4 / 4 = i by omega]
theorem nodeF_kp (dn : Nat → Bool) (V : Nat → Nat → Value) (i key : Nat) (h : key < 3) : nodeF dn V (i * 4 + 1 + key) = V i key := by
  unfold nodeF
  rw [if_neg (by omega), show (i * 4 + 1 + key) / 4 = i by omega, show (i * 4 + 1 + key) % 4 - 1 = key by omega]
def setV (V : Nat → Nat → Value) (i key : Nat) (v : Value) : Nat → Nat → Value := fun i' key' => if i' = i ∧ key' = key then v else V i' key'
theorem setV_at (V : Nat → Nat → Value) (i key : Nat) (v : Value) : setV V i key v i key = v := if_pos ⟨rfl, rfl⟩
theorem setV_far (V : Nat → Nat → Value) {i key i' key' : Nat} (v : Value) (h : i' ≠ i ∨ key' ≠ key) : setV V i key v i' key' = V i' key' := if_neg (by omega)
theorem nodeF_set (dn : Nat → Bool) (V : Nat → Nat → Value) (i key : Nat) (v : Value) (hk : key < 3) (t : Nat) : (if t = i * 4 + 1 + key then v else nodeF dn V t) = nodeF dn (setV V i key v) t := by
  unfold nodeF
  by_cases h : t = i * 4 + 1 + key
  · rw [if_pos h, if_neg (by omega), show t / 4 = i by omega, show t % 4 - 1 = key by omega, setV_at]
  · rw [if_neg h]
    by_cases h4 : t % 4 = 0
    · rw [if_pos h4, if_pos h4]
    · rw [if_neg h4, if_neg h4, setV_far _ _ (by omega)]

def stC (n k wr r nb m : Nat) : Array Value := #[.int .i64 (n : Int), .int .i64 (k : Int), .int .i64 (wr : Int), .int .i64 (r : Int), .slice (some ⟨nb, 0, none⟩) n n, .int .i64 (m : Int)]
/-- The store at block b. Av: blocks that are none of its own. -/
structure Shf (w : World) (base : Nat) (Av : Nat → Prop) (n k wr r b nb : Nat) (V : Nat → Nat → Value) (st : St) : Prop where
  hb : base ≤ b
  hst : w.heap[b]? = some (.cells (stC n k wr r nb st.wr) 62 (0, 0))
  nodes : Own w base 77 nb (n * 4) (n * 4) (nodeF st.dn V)
  row : ∀ i key, i < n → key < 3 → w.ownsRow base 50 3 (V i key) (st.kp i key).length (kpCells (st.kp i key))
  ap : ∀ i key j key', i < n → key < 3 → j < n → key' < 3 → (i ≠ j ∨ key ≠ key') → Apart (V i key) (V j key')
  vb : ∀ i key, i < n → key < 3 → (V i key).ownBlock ≠ some b ∧ (V i key).ownBlock ≠ some nb
  nbb : b ≠ nb
  av : ∀ g, Av g → g < w.heap.size ∧ g ≠ b ∧ g ≠ nb
  avv : ∀ i key g, i < n → key < 3 → (V i key).ownBlock = some g → ¬ Av g
  ok : Okst st
/-- What of the memory is as it was. -/
structure Kept (Av : Nat → Prop) (base : Nat) (w w' : World) : Prop where
  bel : Below base w w'
  blk : ∀ g, Av g → w'.heap[g]? = w.heap[g]?
theorem Kept.refl (Av : Nat → Prop) (base : Nat) (w : World) : Kept Av base w w := ⟨Below.refl _ _, fun _ _ => rfl⟩
theorem Kept.trans {Av : Nat → Prop} {base : Nat} {w w' w'' : World} (h : Kept Av base w w') (h2 : Kept Av base w' w'') : Kept Av base w w'' :=
  ⟨h.bel.trans h2.bel, fun g hg => (h2.blk g hg).trans (h.blk g hg)⟩
theorem Kept.of_below {Av : Nat → Prop} {base : Nat} {w w' : World} (hb : Below w.heap.size w w') (hbase : base ≤ w.heap.size) (h : ∀ g, Av g → g < w.heap.size) : Kept Av base w w' :=
  ⟨hb.mono hbase, fun g hg => hb.block g (h g hg)⟩
theorem Shf.avlt {w : World} {base : Nat} {Av : Nat → Prop} {n k wr r b nb : Nat} {V : Nat → Nat → Value} {st : St} (h : Shf w base Av n k wr r b nb V st) : ∀ g, Av g → g < w.heap.size := fun g hg => (h.av g hg).1
theorem Shf.blt {w : World} {base : Nat} {Av : Nat → Prop} {n k wr r b nb : Nat} {V : Nat → Nat → Value} {st : St} (h : Shf w base Av n k wr r b nb V st) : b < w.heap.size := (Array.getElem?_eq_some_iff.1 h.hst).1
theorem Shf.below {w w' : World} {base : Nat} {Av : Nat → Prop} {n k wr r b nb : Nat} {V : Nat → Nat → Value} {st : St} (h : Shf w base Av n k wr r b nb V st) (hb : Below w.heap.size w w') : Shf w' base Av n k wr r b nb V st :=
  ⟨h.hb, by rw [hb.block b h.blt]; exact h.hst, h.nodes.below hb, fun i key hi hk => own_below (h.row i key hi hk) hb, h.ap, h.vb, h.nbb, fun g hg => ⟨Nat.lt_of_lt_of_le (h.av g hg).1 hb.size, (h.av g hg).2⟩, h.avv, h.ok⟩
theorem Shf.kept {w w' : World} {base : Nat} {Av : Nat → Prop} {n k wr r b nb : Nat} {V : Nat → Nat → Value} {st : St} (h : Shf w base Av n k wr r b nb V st) (hb : Below w.heap.size w w') : Kept Av base w w' :=
  Kept.of_below hb (Nat.le_trans h.hb (Nat.le_of_lt h.blt)) h.avlt
/-- The store's own cells. -/
theorem Shf.cells {w : World} {base : Nat} {Av : Nat → Prop} {n k wr r b nb : Nat} {V : Nat → Nat → Value} {st : St} (h : Shf w base Av n k wr r b nb V st) :
    w.cell? ⟨b, 0, none⟩ = some (.int .i64 (n : Int)) ∧ w.cell? ⟨b, 1, none⟩ = some (.int .i64 (k : Int)) ∧ w.cell? ⟨b, 2, none⟩ = some (.int .i64 (wr : Int)) ∧ w.cell? ⟨b, 3, none⟩ = some (.int .i64 (r : Int)) ∧
    w.cell? ⟨b, 4, none⟩ = some (.slice (some ⟨nb, 0, none⟩) n n) ∧ w.cell? ⟨b, 5, none⟩ = some (.int .i64 (st.wr : Int)) := by
  refine ⟨?_, ?_, ?_, ?_, ?_, ?_⟩ <;> (rw [heap_cell h.hst]; rfl)
theorem Shf.frozen {w : World} {base : Nat} {Av : Nat → Prop} {n k wr r b nb : Nat} {V : Nat → Nat → Value} {st : St} (h : Shf w base Av n k wr r b nb V st) (j : Nat) : w.frozen? ⟨b, j, none⟩ = false := heap_frozen h.hst j
theorem Shf.dnc {w : World} {base : Nat} {Av : Nat → Prop} {n k wr r b nb : Nat} {V : Nat → Nat → Value} {st : St} (h : Shf w base Av n k wr r b nb V st) {i : Nat} (hi : i < n) : w.cell? ⟨nb, i * 4, none⟩ = some (.bool (st.dn i)) := by
  rw [h.nodes.cell (by omega), nodeF_dn]
theorem Shf.kpc {w : World} {base : Nat} {Av : Nat → Prop} {n k wr r b nb : Nat} {V : Nat → Nat → Value} {st : St} (h : Shf w base Av n k wr r b nb V st) {i key : Nat} (hi : i < n) (hk : key < 3) : w.cell? ⟨nb, i * 4 + 1 + key, none⟩ = some (V i key) := by
  rw [h.nodes.cell (by omega), nodeF_kp _ _ _ _ hk]
theorem nil_block {w : World} {base e size : Nat} {v : Value} {n : Nat} {xs : List Value} (h : w.ownsRow base e size v n xs) {k : Nat} (hk : w.heap.size ≤ k) : v.ownBlock ≠ some k := fun he => ownBlock_ne h hk he.symm
/-- One row is another. The row lies in the old one's block or in a new one. -/
theorem Shf.put_row {w w1 : World} {base : Nat} {Av : Nat → Prop} {n k wr r b nb : Nat} {V : Nat → Nat → Value} {st : St} (h : Shf w base Av n k wr r b nb V st) {i key : Nat} (hi : i < n) (hk : key < 3)
    {v : Value} {l : List Kp} (hg : w.grownBy w1 (V i key).ownBlock) (hown : w1.ownsRow base 50 3 v l.length (kpCells l))
    (hat : v.ownBlock = (V i key).ownBlock ∨ ∃ g, v.ownBlock = some g ∧ w.heap.size ≤ g) (hok : Okst (st.set i key l)) :
    Shf (w1.setCell ⟨nb, i * 4 + 1 + key, none⟩ v) base Av n k wr r b nb (setV V i key v) (st.set i key l) ∧ Kept Av base w (w1.setCell ⟨nb, i * 4 + 1 + key, none⟩ v) := by
  have hbl := h.nodes.lt
  have hbb := h.blt
  have hbase : base ≤ w.heap.size := Nat.le_trans h.hb (Nat.le_of_lt hbb)
  have hvi := h.vb i key hi hk
  have hri := (h.row i key hi hk).lt
  have h1 : Shf w1 base Av n k wr r b nb V st → True := fun _ => trivial
  have hN1 : Own w1 base 77 nb (n * 4) (n * 4) (nodeF st.dn V) := World.ownsRow.kept h.nodes hg (.inr fun e => hvi.2 e.symm)
  have hS := hN1.store (i * 4 + 1 + key) v
  have hvnb : v.ownBlock ≠ some nb := by
    rcases hat with e | ⟨g, e, hge⟩
    · rw [e]; exact hvi.2
    · rw [e]; intro e2; injection e2 with e2; omega
  have hvb : v.ownBlock ≠ some b := by
    rcases hat with e | ⟨g, e, hge⟩
    · rw [e]; exact hvi.1
    · rw [e]; intro e2; injection e2 with e2; omega
  have hapv : ∀ j key', j < n → key' < 3 → (i ≠ j ∨ key ≠ key') → Apart v (V j key') := by
    intro j key' hj hk' hne g hg1 hg2
    rcases hat with e | ⟨g', e, hge⟩
    · exact h.ap i key j key' hi hk hj hk' hne g (by rw [← e]; exact hg1) hg2
    · rw [e] at hg1
      injection hg1 with hg1
      have := ((h.row j key' hj hk').lt g hg2).2
      omega
  have hstore : (w1.setCell ⟨nb, i * 4 + 1 + key, none⟩ v).heap[b]? = some (.cells (stC n k wr r nb st.wr) 62 (0, 0)) := by
    rw [heap_set_far v (fun e => h.nbb e.symm)]
    exact heap_grown_old hg h.hst (fun e => hvi.1 e.symm)
  have hsz : w.heap.size ≤ (w1.setCell ⟨nb, i * 4 + 1 + key, none⟩ v).heap.size := Nat.le_trans hg.size hS.2.size
  refine ⟨⟨h.hb, hstore, hS.1.congr fun j _ => nodeF_set _ _ _ _ _ hk _, ?_, ?_, ?_, h.nbb, fun g hg => ⟨Nat.lt_of_lt_of_le (h.av g hg).1 hsz, (h.av g hg).2⟩, ?_, hok⟩, ?_⟩
  · intro j key' hj hk'
    by_cases he : j = i ∧ key' = key
    · rw [he.1, he.2, setV_at, St.set_at]
      exact hown.kept hS.2 (.inr hvnb)
    · rw [setV_far _ _ (by omega), St.set_far _ _ (by omega)]
      refine ((h.row j key' hj hk').kept hg ?_).kept hS.2 (.inr (h.vb j key' hj hk').2)
      cases hu : (V j key').ownBlock with
      | none => exact .inl rfl
      | some g => exact .inr fun e => h.ap i key j key' hi hk hj hk' (by omega) g e.symm hu
  · intro j key' j2 key2 hj hk' hj2 hk2 hne
    by_cases he : j = i ∧ key' = key
    · rw [he.1, he.2, setV_at, setV_far _ _ (by omega)]
      exact hapv j2 key2 hj2 hk2 (by omega)
    · rw [setV_far _ _ (by omega)]
      by_cases he2 : j2 = i ∧ key2 = key
      · rw [he2.1, he2.2, setV_at]
        exact (hapv j key' hj hk' (by omega)).symm
      · rw [setV_far _ _ (by omega)]
        exact h.ap j key' j2 key2 hj hk' hj2 hk2 hne
  · intro j key' hj hk'
    by_cases he : j = i ∧ key' = key
    · rw [he.1, he.2, setV_at]; exact ⟨hvb, hvnb⟩
    · rw [setV_far _ _ (by omega)]; exact h.vb j key' hj hk'
  · intro j key' g hj hk' hgv hA
    by_cases he : j = i ∧ key' = key
    · rw [he.1, he.2, setV_at] at hgv
      rcases hat with e | ⟨g', e, hge⟩
      · rw [e] at hgv; exact h.avv i key g hi hk hgv hA
      · rw [e] at hgv; injection hgv with hgv; have := (h.av g hA).1; omega
    · rw [setV_far _ _ (by omega)] at hgv
      exact h.avv j key' g hj hk' hgv hA
  · refine ⟨below_set ((Below.refl base w).grown hg hbase fun g hg => (hri g hg).1) hbl.1 v, fun g hA => ?_⟩
    rw [heap_set_far v (fun e => (h.av g hA).2.2 e.symm)]
    exact hg.block g (h.av g hA).1 (fun e => h.avv i key g hi hk e.symm hA)
/-- A node goes down or up. -/
theorem Shf.put_dn {w : World} {base : Nat} {Av : Nat → Prop} {n k wr r b nb : Nat} {V : Nat → Nat → Value} {st : St} (h : Shf w base Av n k wr r b nb V st) {i : Nat} (hi : i < n) (x : Bool) :
    Shf (w.setCell ⟨nb, i * 4, none⟩ (.bool x)) base Av n k wr r b nb V (st.down i x) ∧ Kept Av base w (w.setCell ⟨nb, i * 4, none⟩ (.bool x)) := by
  have hS := h.nodes.store (i * 4) (.bool x)
  refine ⟨⟨h.hb, ?_, hS.1.congr fun j _ => ?_, ?_, h.ap, h.vb, h.nbb, fun g hg => ⟨Nat.lt_of_lt_of_le (h.av g hg).1 hS.2.size, (h.av g hg).2⟩, h.avv, h.ok.down i x⟩, below_set (Below.refl _ _) h.nodes.lt.1 _, fun g hA => ?_⟩
  · rw [heap_set_far _ (fun e : nb = b => h.nbb e.symm)]; exact h.hst
  · unfold nodeF St.down
    by_cases hj : j = i * 4
    · subst hj; rw [if_pos rfl, if_pos (by omega)]; simp
    · rw [if_neg hj]
      by_cases h4 : j % 4 = 0
      · rw [if_pos h4, if_pos h4]
        show _ = Value.bool (if j / 4 = i then x else st.dn (j / 4))
        rw [if_neg (by omega)]
      · rw [if_neg h4, if_neg h4]
  · intro j key hj hk
    exact (h.row j key hj hk).kept hS.2 (.inr (h.vb j key hj hk).2)
  · rw [heap_set_far _ (fun e => (h.av g hA).2.2 e.symm)]
/-- The count of writes goes up. -/
theorem Shf.put_wr {w : World} {base : Nat} {Av : Nat → Prop} {n k wr r b nb : Nat} {V : Nat → Nat → Value} {st : St} (h : Shf w base Av n k wr r b nb V st) (hw : st.wr ≠ 1000000) :
    Shf (w.setCell ⟨b, 5, none⟩ (.int .i64 ((st.wr + 1 : Nat) : Int))) base Av n k wr r b nb V st.up1 ∧ Kept Av base w (w.setCell ⟨b, 5, none⟩ (.int .i64 ((st.wr + 1 : Nat) : Int))) := by
  have hg := setCell_grown w b 5 (.int .i64 ((st.wr + 1 : Nat) : Int))
  refine ⟨⟨h.hb, ?_, World.ownsRow.kept h.nodes hg (.inr fun e => by injection e with e; exact h.nbb e.symm), ?_, h.ap, h.vb, h.nbb, fun g hg2 => ⟨Nat.lt_of_lt_of_le (h.av g hg2).1 hg.size, (h.av g hg2).2⟩, h.avv, h.ok.up1 hw⟩, below_set (Below.refl _ _) h.hb _, fun g hA => ?_⟩
  · rw [heap_set _ h.hst]; rfl
  · intro j key hj hk
    exact (h.row j key hj hk).kept hg (.inr (h.vb j key hj hk).1)
  · rw [heap_set_far _ (fun e => (h.av g hA).2.1 e.symm)]
/-- What the nodes keep is read. -/
theorem Shf.reads {w : World} {base : Nat} {Av : Nat → Prop} {n k wr r b nb : Nat} {V : Nat → Nat → Value} {st : St} (h : Shf w base Av n k wr r b nb V st) {i key : Nat} (hi : i < n) (hk : key < 3) :
    ∃ ao cap, V i key = .slice ao (st.kp i key).length cap ∧ Reads w ao (kpCells (st.kp i key)) ∧ (ao = none → (st.kp i key).length = 0 ∧ cap = 0) := by
  obtain ⟨ao, cap, h1, h2, h3, _⟩ := own_reads (h.row i key hi hk)
  exact ⟨ao, cap, h1, h2, h3⟩
end Go.Proofs.Ytioecklnijhjgaa
namespace Go.Proofs.Ytioecklnijhjgaa
/-- The ones among the first k bits. -/
def onesF (a : Nat) : Nat → Nat
  | 0 => 0
  | k + 1 => onesF a k + (a / 2 ^ k % 2)
theorem onesF_le (a k : Nat) : onesF a k ≤ k := by
  induction k with
  | zero => simp [onesF]
  | succ k ih => simp only [onesF]; omega
def ones16 (a : Nat) : Nat := onesF a 16
theorem onesF_mod (a : Nat) : ∀ k, k ≤ 8 → onesF a k = onesF (a % 256) k := by
  intro k
  induction k with
  | zero => intro _; rfl
  | succ k ih =>
    intro hk
    simp only [onesF]
    rw [ih (by omega)]
    have h : ∀ j, j < 8 → a / 2 ^ j % 2 = a % 256 / 2 ^ j % 2 := by
      intro j hj
      rcases (by omega : j = 0 ∨ j = 1 ∨ j = 2 ∨ j = 3 ∨ j = 4 ∨ j = 5 ∨ j = 6 ∨ j = 7) with rfl | rfl | rfl | rfl | rfl | rfl | rfl | rfl <;> simp only [Nat.reducePow] <;> omega
    rw [h k (by omega)]
theorem onesF_div (a : Nat) : ∀ k, onesF a (8 + k) = onesF a 8 + onesF (a / 256) k := by
  intro k
  induction k with
  | zero => rfl
  | succ k ih =>
    show onesF a (8 + k) + a / 2 ^ (8 + k) % 2 = _ + (onesF (a / 256) k + _)
    rw [ih, show 2 ^ (8 + k) = 256 * 2 ^ k by rw [Nat.pow_add], ← Nat.div_div_eq_div_mul]; omega
theorem ones16_split (a : Nat) : ones16 a = onesF (a / 256) 8 + onesF (a % 256) 8 := by
  unfold ones16
  rw [show (16 : Nat) = 8 + 8 from rfl, onesF_div a 8, onesF_mod a 8 (by omega)]; omega
end Go.Proofs.Ytioecklnijhjgaa
namespace Go.Proofs.Ytioecklnijhjgaa
open Go.RowKit

theorem pop8_ones (x : Nat) (h : x < 256) : Lib.pop8 (x : Int) = (onesF x 8 : Nat) := by
  have : ∀ n : Fin 256, Lib.pop8 (n.val : Int) = (onesF n.val 8 : Nat) := by decide +kernel
  exact this ⟨x, h⟩
theorem ofInt_u16 (a : Nat) (ha : a < 65536) : (BitVec.ofInt 16 (a : Int)).toNat = a := by
  rw [BitVec.ofInt_natCast, BitVec.toNat_ofNat]; exact Nat.mod_eq_of_lt (by omega)
theorem wrap_u16 (a : Nat) (h : a < 65536) : IntKind.u16.wrap (a : Int) = (a : Int) := by
  simp only [IntKind.wrap, IntKind.signed, IntKind.bits]
  simp
  omega
theorem u16_and_nat (a b : Nat) (ha : a < 65536) (hb : b < 65536) : bits .and .u16 (a : Int) (b : Int) = ((a &&& b : Nat) : Int) := by
  have hx : a &&& b < 2 ^ 16 := Nat.and_lt_two_pow _ (by omega)
  show IntKind.u16.wrap ((BitVec.ofInt 16 (a : Int) &&& BitVec.ofInt 16 (b : Int)).toNat : Int) = _
  rw [BitVec.toNat_and, ofInt_u16 a ha, ofInt_u16 b hb]
  exact wrap_u16 _ (by omega)
theorem u16_or_nat (a b : Nat) (ha : a < 65536) (hb : b < 65536) : bits .or .u16 (a : Int) (b : Int) = ((a ||| b : Nat) : Int) := by
  have hx : a ||| b < 2 ^ 16 := Nat.or_lt_two_pow (by omega) (by omega)
  show IntKind.u16.wrap ((BitVec.ofInt 16 (a : Int) ||| BitVec.ofInt 16 (b : Int)).toNat : Int) = _
  rw [BitVec.toNat_or, ofInt_u16 a ha, ofInt_u16 b hb]
  exact wrap_u16 _ (by omega)
end Go.Proofs.Ytioecklnijhjgaa
namespace Go.Proofs.Ytioecklnijhjgaa
open Go.RowKit
theorem u64_in (x : Int) (h0 : 0 ≤ x) (h1 : x < 18446744073709551616) : IntKind.u64.wrap x = x := by
  simp only [IntKind.wrap, IntKind.signed, IntKind.bits]
  simp
  omega
theorem ofInt_u64 (a : Nat) (ha : a < 18446744073709551616) : (BitVec.ofInt 64 (a : Int)).toNat = a := by
  rw [BitVec.ofInt_natCast, BitVec.toNat_ofNat]; exact Nat.mod_eq_of_lt (by omega)
theorem u64_and_nat (a b : Nat) (ha : a < 18446744073709551616) (hb : b < 18446744073709551616) : bits .and .u64 (a : Int) (b : Int) = ((a &&& b : Nat) : Int) := by
  have hx : a &&& b < 2 ^ 64 := Nat.and_lt_two_pow _ (by omega)
  show IntKind.u64.wrap ((BitVec.ofInt 64 (a : Int) &&& BitVec.ofInt 64 (b : Int)).toNat : Int) = _
  rw [BitVec.toNat_and, ofInt_u64 a ha, ofInt_u64 b hb]
  exact u64_in _ (by omega) (by omega)
theorem u64_or_nat (a b : Nat) (ha : a < 18446744073709551616) (hb : b < 18446744073709551616) : bits .or .u64 (a : Int) (b : Int) = ((a ||| b : Nat) : Int) := by
  have hx : a ||| b < 2 ^ 64 := Nat.or_lt_two_pow (by omega) (by omega)
  show IntKind.u64.wrap ((BitVec.ofInt 64 (a : Int) ||| BitVec.ofInt 64 (b : Int)).toNat : Int) = _
  rw [BitVec.toNat_or, ofInt_u64 a ha, ofInt_u64 b hb]
  exact u64_in _ (by omega) (by omega)
theorem u64_xor_nat (a b : Nat) (ha : a < 18446744073709551616) (hb : b < 18446744073709551616) : bits .xor .u64 (a : Int) (b : Int) = ((a ^^^ b : Nat) : Int) := by
  have hx : a ^^^ b < 2 ^ 64 := Nat.xor_lt_two_pow (by omega) (by omega)
  show IntKind.u64.wrap ((BitVec.ofInt 64 (a : Int) ^^^ BitVec.ofInt 64 (b : Int)).toNat : Int) = _
  rw [BitVec.toNat_xor, ofInt_u64 a ha, ofInt_u64 b hb]
  exact u64_in _ (by omega) (by omega)
theorem u64_neg (r : Nat) (h0 : 0 < r) (h1 : r < 18446744073709551616) : IntKind.u64.wrap (-(r : Int)) = ((18446744073709551616 - r : Nat) : Int) := by
  simp only [IntKind.wrap, IntKind.signed, IntKind.bits]
  simp
  omega
end Go.Proofs.Ytioecklnijhjgaa
namespace Go.Proofs.Ytioecklnijhjgaa
def pop1 (x : Nat) : Nat := (x / 2 &&& 6148914691236517205) + (x &&& 6148914691236517205)
def pop2 (x : Nat) : Nat := (x / 4 &&& 3689348814741910323) + (x &&& 3689348814741910323)
def pop3 (x : Nat) : Nat := (x / 16 + x) &&& 1085102592571150095
def pop4 (x : Nat) : Nat := x + x / 256
def pop5 (x : Nat) : Nat := x + x / 65536
def pop6 (x : Nat) : Nat := x + x / 4294967296
def popOk (x : Nat) : Bool :=
  decide (pop1 x < 1000000000) && decide (pop2 (pop1 x) < 1000000000) && decide (pop3 (pop2 (pop1 x)) < 1000000000) && decide (pop4 (pop3 (pop2 (pop1 x))) < 1000000000) &&
  decide (pop5 (pop4 (pop3 (pop2 (pop1 x)))) < 1000000000) && decide (pop6 (pop5 (pop4 (pop3 (pop2 (pop1 x))))) < 1000000000) && decide (pop6 (pop5 (pop4 (pop3 (pop2 (pop1 x))))) &&& 127 = ones16 x)
theorem pop_all : ∀ x : Fin 64, ∀ y : Fin 64, popOk (64 * x.val + y.val) = true := by decide +kernel
theorem pop_ok {x : Nat} (h : x < 4096) : popOk x = true := by
  have h1 := pop_all ⟨x / 64, by omega⟩ ⟨x % 64, by omega⟩
  have e : 64 * (x / 64) + x % 64 = x := by omega
  simp only [e] at h1
  exact h1
end Go.Proofs.Ytioecklnijhjgaa
