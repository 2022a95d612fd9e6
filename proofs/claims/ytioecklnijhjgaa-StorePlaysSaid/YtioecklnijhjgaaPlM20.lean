/- The reference's store: a list of pieces. -/
import Derived.Test.YtioecklnijhjgaaPlM16
import Derived.Test.YtioecklnijhjgaaPlM19
import Derived.Test.YtioecklnijhjgaaPlM3
import Derived.Test.YtioecklnijhjgaaPlM1
import Derived.ArgAppend
import Derived.Test.YtioecklnijhjgaaPlM2
set_option linter.unusedVariables false
set_option linter.unusedSimpArgs false
namespace Go.Proofs.Ytioecklnijhjgaa
open Go.RowKit

/-- A piece at a node, by a key. -/
abbrev It := Nat × Nat × Kp
def atB (i key : Nat) (x : It) : Bool := x.1 == i && x.2.1 == key
def keptAt (l : List It) (i key : Nat) : List Kp := (l.filter (atB i key)).map (·.2.2)
def itC (x : It) : List Value := [.int .i64 (x.1 : Int), .int .i64 (x.2.1 : Int), .int .i64 (x.2.2.1 : Int), .int .i64 0, .string x.2.2.2]
def itCells (l : List It) : List Value := l.flatMap itC
theorem itCells_len (l : List It) : (itCells l).length = l.length * 5 := by
  unfold itCells
  induction l with
  | nil => rfl
  | cons x t ih => rw [List.flatMap_cons, List.length_append, ih]; simp [itC]; omega
theorem itCells_snoc (l : List It) (x : It) : itCells (l ++ [x]) = itCells l ++ itC x := by simp [itCells]
theorem itCells_append (l m : List It) : itCells (l ++ m) = itCells l ++ itCells m := by simp [itCells]
theorem itCells_one (l : List It) : ∀ u ∈ itCells l, u.oneCell' = true := by
  intro u hu
  obtain ⟨x, _, hx⟩ := List.mem_flatMap.1 hu
  simp [itC] at hx
  rcases hx with rfl | rfl | rfl | rfl | rfl <;> rfl
theorem itCells_get {l : List It} {j : Nat} {x : It} (h : l[j]? = some x) : ∀ q, q < 5 → (itCells l)[j * 5 + q]? = (itC x)[q]? := by
  induction l generalizing j with
  | nil => simp at h
  | cons y t ih =>
    intro q hq
    have e : itCells (y :: t) = itC y ++ itCells t := by simp [itCells]
    have h4 : (itC y).length = 5 := rfl
    rw [e]
    cases j with
    | zero =>
      simp at h
      subst h
      rw [List.getElem?_append_left (by rw [h4]; omega)]
      congr 1
      omega
    | succ j =>
      have h2 : t[j]? = some x := by simpa using h
      rw [List.getElem?_append_right (by rw [h4]; omega), h4, show (j + 1) * 5 + q - 5 = j * 5 + q by omega]
      exact ih h2 q hq
theorem it_cells {w : World} {ao : Option Addr} {l : List It} (h : Reads w ao (itCells l)) {k : Nat} {x : It} (hk : l[k]? = some x) :
    ∃ b o, ao = some ⟨b, o, none⟩ ∧ w.cell? ⟨b, o + k * 5, none⟩ = some (.int .i64 (x.1 : Int)) ∧ w.cell? ⟨b, o + k * 5 + 1, none⟩ = some (.int .i64 (x.2.1 : Int)) ∧ w.cell? ⟨b, o + k * 5 + 2, none⟩ = some (.int .i64 (x.2.2.1 : Int)) ∧
      w.cell? ⟨b, o + k * 5 + 3, none⟩ = some (.int .i64 0) ∧ w.cell? ⟨b, o + k * 5 + 4, none⟩ = some (.string x.2.2.2) := by
  have g := itCells_get hk
  obtain ⟨b, o, rfl, c0⟩ := h (k * 5 + 0) _ (g 0 (by omega))
  obtain ⟨b1, o1, e1, c1⟩ := h (k * 5 + 1) _ (g 1 (by omega))
  obtain ⟨b2, o2, e2, c2⟩ := h (k * 5 + 2) _ (g 2 (by omega))
  obtain ⟨b3, o3, e3, c3⟩ := h (k * 5 + 3) _ (g 3 (by omega))
  obtain ⟨b4, o4, e4, c4⟩ := h (k * 5 + 4) _ (g 4 (by omega))
  cases e1; cases e2; cases e3; cases e4
  exact ⟨b, o, rfl, c0, by rw [Nat.add_assoc]; exact c1, by rw [Nat.add_assoc]; exact c2, by rw [Nat.add_assoc]; exact c3, by rw [Nat.add_assoc]; exact c4⟩
theorem itemInfo : ElemRow Try.prog 70 (.agg #[.int .i64 0, .int .i64 0, .int .i64 0, .int .i64 0, .string ByteArray.empty]) 5 48 := elemRow_of (by kernel_rfl) rfl (by omega)
abbrev shC (n k wr r D m : Nat) (v : Value) : Array Value := #[.int .i64 (n : Int), .int .i64 (k : Int), .int .i64 (wr : Int), .int .i64 (r : Int), .int .u16 (D : Int), .int .i64 (m : Int), v]
/-- What the reference has, and what the store has. -/
structure Shl (n D : Nat) (All : List It) (st : St) : Prop where
  kp : ∀ i key, i < n → key < 3 → keptAt All i key = st.kp i key
  dn : ∀ i, i < n → st.dn i = decide (D / 2 ^ i % 2 = 1)
  d : D < 65536
  it : ∀ x ∈ All, x.1 < n ∧ x.2.1 < 3
  ok : Okst st
/-- The list is no longer than its parts. -/
theorem filt_len {α : Type} (f : α → Nat) (B : Nat) (l : List α) (h : ∀ c, (l.filter (fun x => f x == c)).length ≤ B) : ∀ c, (l.filter (fun x => decide (f x < c))).length ≤ c * B
  | 0 => by rw [List.filter_eq_nil_iff.2 (by simp)]; simp
  | c + 1 => by
    have ih := filt_len f B l h c
    have h1 := h c
    have e : (l.filter (fun x => decide (f x < c + 1))).length = (l.filter (fun x => decide (f x < c))).length + (l.filter (fun x => f x == c)).length := by
      clear ih h1 h
      induction l with
      | nil => rfl
      | cons x t ih =>
        rw [List.filter_cons, List.filter_cons, List.filter_cons]
        by_cases h1 : f x < c
        · rw [if_pos (by simpa using (by omega : f x < c + 1)), if_pos (by simpa using h1), if_neg (by simp; omega)]
          simp only [List.length_cons]
          omega
        · by_cases h2 : f x = c
          · rw [if_pos (by simpa using (by omega : f x < c + 1)), if_neg (by simpa using h1), if_pos (by simpa using h2)]
            simp only [List.length_cons]
            omega
          · rw [if_neg (by simp; omega), if_neg (by simpa using h1), if_neg (by simpa using h2)]
            exact ih
    rw [e, Nat.succ_mul]
    omega
theorem Shl.len {n D : Nat} {All : List It} {st : St} (h : Shl n D All st) (hn : n ≤ 10) : All.length ≤ 30000000 := by
  have h1 : ∀ c, (All.filter (fun x => x.1 * 3 + x.2.1 == c)).length ≤ 1000000 := by
    intro c
    by_cases hc : c / 3 < n
    · have e := h.kp (c / 3) (c % 3) hc (by omega)
      have e2 : All.filter (fun x => x.1 * 3 + x.2.1 == c) = All.filter (atB (c / 3) (c % 3)) := by
        apply List.filter_congr
        intro x hx
        have := h.it x hx
        unfold atB
        rw [Bool.eq_iff_iff]
        simp
        omega
      rw [e2]
      have e3 : (keptAt All (c / 3) (c % 3)).length = (All.filter (atB (c / 3) (c % 3))).length := by unfold keptAt; rw [List.length_map]
      rw [← e3, e]
      exact h.ok.len _ _
    · rw [List.filter_eq_nil_iff.2 (by
        intro x hx
        have := h.it x hx
        simp
        omega)]
      simp
  have h2 := filt_len (fun x : It => x.1 * 3 + x.2.1) 1000000 All h1 30
  have h3 : All.filter (fun x => decide (x.1 * 3 + x.2.1 < 30)) = All := by
    rw [List.filter_eq_self]
    intro x hx
    have := h.it x hx
    simp
    omega
  rw [h3] at h2
  exact h2
end Go.Proofs.Ytioecklnijhjgaa
namespace Go.Proofs.Ytioecklnijhjgaa
open Go.RowKit

def RowK (w : World) (base b n cap : Nat) (f : Nat → Value) : Prop :=
  base ≤ b ∧ b < w.heap.size ∧ n ≤ cap ∧ cap ≤ maxLen ∧ (∀ j, j < n → w.cell? ⟨b, j, none⟩ = some (f j)) ∧ ∀ j, j < cap → (w.cell? ⟨b, j, none⟩).isSome = true ∧ w.frozen? ⟨b, j, none⟩ = false
theorem RowK.below {w w' : World} {base b n cap : Nat} {f : Nat → Value} (h : RowK w base b n cap f) (hb : Below w.heap.size w w') : RowK w' base b n cap f := by
  obtain ⟨h1, h2, h3, h4, h5, h6⟩ := h
  exact ⟨h1, Nat.lt_of_lt_of_le h2 hb.size, h3, h4, fun j hj => (hb.cell (p := ⟨b, j, none⟩) h2).trans (h5 j hj), fun j hj => ⟨by rw [hb.cell (p := ⟨b, j, none⟩) h2]; exact (h6 j hj).1, by rw [hb.frozen (p := ⟨b, j, none⟩) h2]; exact (h6 j hj).2⟩⟩
theorem RowK.reads {w : World} {base b n cap : Nat} {f : Nat → Value} (h : RowK w base b n cap f) : Reads w (some ⟨b, 0, none⟩) (rowF n f) := by
  intro j u hu
  have hj : j < n := by have := (List.getElem?_eq_some_iff.1 hu).1; rwa [rowF_length] at this
  rw [rowF_get f hj] at hu
  cases hu
  exact ⟨b, 0, rfl, by rw [Nat.zero_add]; exact h.2.2.2.2.1 j hj⟩
theorem RowK.congr {w : World} {base b n cap : Nat} {f f' : Nat → Value} (h : RowK w base b n cap f) (hf : ∀ j, j < n → f j = f' j) : RowK w base b n cap f' :=
  ⟨h.1, h.2.1, h.2.2.1, h.2.2.2.1, fun j hj => by rw [← hf j hj]; exact h.2.2.2.2.1 j hj, h.2.2.2.2.2⟩
theorem bytesRow_size (s : ByteArray) (cap : Nat) : (bytesRow s cap).size = s.size + (cap - s.size) := by
  unfold bytesRow
  rw [Array.size_append, Array.size_map, Array.size_replicate]; rfl
/-- What '[]byte(s)' lays. -/
theorem rowK_of_string (w : World) (s : ByteArray) (cap base : Nat) (h1 : s.size ≤ cap) (h2 : cap ≤ maxLen) (hb : base ≤ w.heap.size) :
    RowK (w.alloc (.cells (bytesRow s cap) 5 ((bytesRow s cap).size, (bytesRow s cap).size + 1))) base w.heap.size s.size cap (fun j => .int .u8 (byteS s j : Nat)) := by
  have hsz : (bytesRow s cap).size = cap := by rw [bytesRow_size]; omega
  refine ⟨hb, by simp, h1, h2, fun j hj => (rowC_of_string w s cap j hj).1, fun j hj => ⟨?_, ?_⟩⟩
  · rw [World.cell?_alloc_mark, Array.getElem?_eq_getElem (by omega)]; rfl
  · rw [World.frozen?_alloc_mark]
    have : ¬ (bytesRow s cap).size ≤ j := by omega
    simp [this]
theorem rowK_of_own {w : World} {base g n cap : Nat} {f : Nat → Value} (h : Own w base 5 g n cap f) : RowK w base g n cap f := by
  rcases h.2 with ⟨hv, _⟩ | ⟨g', c, cur, hv, h1, h2, h3, h4, h5, h6⟩
  · cases hv
  · cases hv
    have hlt := h.lt
    refine ⟨hlt.1, hlt.2, h3, h4, fun j hj => h.cell hj, fun j hj => ⟨?_, h.frozen j⟩⟩
    have hc : w.cell? ⟨g, j, none⟩ = cur[j]? := cell_of_row w g j cur 5 (0, 0) h2
    rw [hc, Array.getElem?_eq_getElem (by rw [h5]; simpa using hj)]; rfl
/-- 'append(s, x)' onto it. -/
theorem app_rowK {P : Program} {w : World} {ops : Array Oper} {rest : List Oper} {o : Oper} {a : Act} {Q : Exit → Act → World → Prop} (hgd : o.guard = none) (s x : Operand) (t : TypeId)
    (ho : o.op = .call { callee := .builtin .append, args := #[s, x], argTypes := #[t, t] })
    (hP : P.underlying t = some (.slice 5)) (hE : ElemRow P 5 (.int .u8 0) 1 1)
    (base b n cap : Nat) (f : Nat → Value) (hs : a.eval s = .slice (some ⟨b, 0, none⟩) n cap) (hown : RowK w base b n cap f)
    (u : Value) (hx : a.eval x = .slice (some ⟨w.heap.size, 0, none⟩) 1 1) (h1 : u.oneCell' = true) (hf : f n = u) (hn : n ≤ 1000000) (hbase : base ≤ w.heap.size)
    (h : ∀ b' cap' w', RowK w' base b' (n + 1) cap' f → Below base w w' → wpList P ops Q rest (a.put o.dst (.slice (some ⟨b', 0, none⟩) (n + 1) cap')) w') :
    wpList P ops Q (o :: rest) a (w.alloc (.cells #[u] 5)) := by
  obtain ⟨i, hi, hz, hsize, hby, hzs, hsz⟩ := hE
  have hb0 : Below w.heap.size w (w.alloc (.cells #[u] 5)) := (Below.refl _ _).alloc (Nat.le_refl _) _
  have hK := hown.below hb0
  obtain ⟨k1, k2, k3, k4, k5, k6⟩ := hK
  refine wpList_append_arg (w.alloc (.cells #[u] 5)) hgd s x t ho 5 i (.int .u8 0) 1 1 hP hi hz hsize hby hzs hsz b 0 n cap (rowF n f) hs (by rw [rowF_length]; omega) (fun j v hv => ?_)
    ⟨w.heap.size, 0, none⟩ 1 1 [u] hx rfl (fun j v hv => ?_) (by intro q hq; simp at hq; subst hq; exact h1) (fun hr j hj => ?_) (by unfold maxLen; omega) (by omega) (fun hr => ?_) (fun hr v' w' hown' hgr => ?_)
  · have hj : j < n := by have := (List.getElem?_eq_some_iff.1 hv).1; rwa [rowF_length] at this
    rw [rowF_get f hj] at hv
    cases hv
    rw [Nat.zero_add]; exact k5 j hj
  · have hr := reads_new w #[u] 5 j v (by simpa using hv)
    obtain ⟨bb, oo, ha, hc⟩ := hr
    cases ha
    rw [Addr.add_lit]; exact hc
  · have hj0 : j = 0 := by simpa using hj
    subst hj0
    have := k6 n (by omega)
    simpa using this
  · have e : (w.alloc (.cells #[u] 5)).setCells b (0 + n * 1) [u] = (w.alloc (.cells #[u] 5)).setCell ⟨b, n, none⟩ u := by
      rw [Nat.zero_add, Nat.mul_one]; rfl
    rw [e]
    refine h b cap _ ⟨k1, by simpa using k2, hr, k4, fun j hj => ?_, fun j hj => ?_⟩ (below_set ((Below.refl _ _).alloc hbase _) k1 _)
    · by_cases hjn : j = n
      · subst hjn
        rw [hf]
        exact World.cell?_setCell_same' _ _ _ (k6 j (by omega)).1
      · rw [World.cell?_setCell_other _ _ _ _ (by intro e; injection e with e1 e2; omega)]
        exact k5 j (by omega)
    · by_cases hjn : j = n
      · subst hjn
        exact ⟨by rw [World.cell?_setCell_same' _ _ _ (k6 j hj).1]; rfl, by rw [World.frozen?_setCell]; exact (k6 j hj).2⟩
      · exact ⟨by rw [World.cell?_setCell_other _ _ _ _ (by intro e; injection e with e1 e2; omega)]; exact (k6 j hj).1, by rw [World.frozen?_setCell]; exact (k6 j hj).2⟩
  · obtain ⟨g', c', rfl⟩ := own_form hown' (by simp)
    have hO : Own w' base 5 g' (n + 1) c' f := by
      have := own_mono hown' (base' := base) (by rw [World.size_alloc]; omega)
      show World.ownsRow _ _ _ _ _ _ _
      rw [rowF_succ, hf]; exact this
    exact h g' c' w' (rowK_of_own hO) (((Below.refl base w).alloc hbase _).grown hgr (by rw [World.size_alloc]; omega) (fun k hk => by cases hk))
end Go.Proofs.Ytioecklnijhjgaa
namespace Go.Proofs.Ytioecklnijhjgaa
open Go.RowKit

theorem step_app_one {P : Program} {W : World} {ops : Array Oper} {o : Oper} {a : Act} {K : Act → World → Prop} {Q : Exit → Act → World → Prop} {E : Prop} (hgd : o.guard = none) (s x : Operand) (t : TypeId)
    (ho : o.op = .call { callee := .builtin .append, args := #[s, x], argTypes := #[t, t] })
    (base : Nat) (e : TypeId) (z : Value) (size bytes : Nat) (ht : P.underlying t = some (.slice e)) (hE : ElemRow P e z size bytes)
    (v : Value) (n : Nat) (xs : List Value) (hs : a.eval s = v) (w0 : World) (hown : w0.ownsRow base e size v n xs)
    (wb : World) (hb : Below base wb w0) (hbs : base ≤ wb.heap.size) (hW : Below w0.heap.size w0 W)
    (q : Nat) (us : Array Value) (hx : a.eval x = .slice (some ⟨q, 0, none⟩) 1 1) (hq : W.heap[q]? = some (.cells us e)) (hlen : us.size = size) (h1 : ∀ u ∈ us.toList, u.oneCell' = true)
    (h63 : n + 1 ≤ maxLen) (hbytes : (n + 1) * bytes ≤ 140737488355328)
    (h : ∀ v' w', w'.ownsRow base e size v' (n + 1) (xs ++ us.toList) → Below base wb w' → K (a.put o.dst v') w') :
    if Region.wanted o (yielded ops a.tmps) = true then Oper.wp P o a W K Q else E := by
  obtain ⟨i, hi, hz, hsize, hby, hzs, hsz1⟩ := hE
  have hownW := own_below hown hW
  have hbW : Below base wb W := hb.trans (Below.mono hW hb.size |>.mono (by omega))
  refine step_append_lies W hgd s x t ho base e i z size bytes ht hi hz hsize hby hzs hsz1 v n xs hs hownW ⟨q, 0, none⟩ 1 1 us.toList hx (by simp [hlen]) (World.news_of_block hq) h1 (by omega) h63 hbytes (Nat.le_trans hbs hbW.size) W.heap.size rfl ?_
  intro g cap w' hown' hgr hat hlt
  exact h _ w' hown' (hbW.grown hgr (Nat.le_trans hbs hbW.size) fun k hk => (hown.lt k hk).1)
end Go.Proofs.Ytioecklnijhjgaa
