/- The reference's answers: a shelf and what is told, in two blocks. Plain laws of the list. -/
import Derived.Test.YtioecklnijhjgaaPlM23
import Derived.Test.YtioecklnijhjgaaPlM25
import Derived.Test.YtioecklnijhjgaaPlM16
import Derived.Test.YtioecklnijhjgaaPlM19
set_option linter.unusedVariables false
set_option linter.unusedSimpArgs false
namespace Go.Proofs.Ytioecklnijhjgaa
open Go.RowKit

def RefPost (n k wr r : Nat) (ao : Option Addr) (R : St × Tl × Nat) (w : World) (e : Ending) (w' : World) : Prop :=
  ∃ (D' : Nat) (All' : List It) (ao' : Option Addr) (cap' : Nat), e = .returned (.tuple #[.agg (shC n k wr r D' R.1.wr (.slice ao' All'.length cap')), tellV R.2.1, .int .i64 (R.2.2 : Nat)]) ∧ Shl n D' All' R.1 ∧ Reads w' ao' (itCells All') ∧ (ao' = none → All'.length = 0 ∧ cap' = 0) ∧
    (ao' = ao ∨ ∀ a, ao' = some a → w.heap.size ≤ a.block ∧ a.block < w'.heap.size) ∧ Below w.heap.size w w'
theorem two_heaps {w : World} {A B : Nat} {t t' : TypeId} {x0 x1 x2 x3 x4 x5 x6 y0 y1 y2 y3 : Value} (hne : A ≠ B) (hA : w.heap[A]? = some (.cells #[x0, x1, x2, x3, x4, x5, x6] t (0, 0))) (hB : w.heap[B]? = some (.cells #[y0, y1, y2, y3] t' (0, 0))) (a0 a1 a2 a3 a4 a5 a6 b0 b1 b2 b3 : Value) :
    ((((((((((((w.setCell ⟨A, 0, none⟩ a0).setCell ⟨A, 1, none⟩ a1).setCell ⟨A, 2, none⟩ a2).setCell ⟨A, 3, none⟩ a3).setCell ⟨A, 4, none⟩ a4).setCell ⟨A, 5, none⟩ a5).setCell ⟨A, 6, none⟩ a6).setCell ⟨B, 0, none⟩ b0).setCell ⟨B, 1, none⟩ b1).setCell ⟨B, 2, none⟩ b2).setCell ⟨B, 3, none⟩ b3).heap[A]? = some (.cells #[a0, a1, a2, a3, a4, a5, a6] t (0, 0))) ∧
    ((((((((((((w.setCell ⟨A, 0, none⟩ a0).setCell ⟨A, 1, none⟩ a1).setCell ⟨A, 2, none⟩ a2).setCell ⟨A, 3, none⟩ a3).setCell ⟨A, 4, none⟩ a4).setCell ⟨A, 5, none⟩ a5).setCell ⟨A, 6, none⟩ a6).setCell ⟨B, 0, none⟩ b0).setCell ⟨B, 1, none⟩ b1).setCell ⟨B, 2, none⟩ b2).setCell ⟨B, 3, none⟩ b3).heap[B]? = some (.cells #[b0, b1, b2, b3] t' (0, 0))) := by
  have h1 := heap_set a6 (j := 6) (heap_set a5 (j := 5) (heap_set a4 (j := 4) (heap_set a3 (j := 3) (heap_set a2 (j := 2) (heap_set a1 (j := 1) (heap_set a0 (j := 0) hA))))))
  constructor
  · rw [heap_set_far _ (fun e : B = A => hne e.symm), heap_set_far _ (fun e : B = A => hne e.symm), heap_set_far _ (fun e : B = A => hne e.symm), heap_set_far _ (fun e : B = A => hne e.symm), h1]; rfl
  · have h2 : (((((((w.setCell ⟨A, 0, none⟩ a0).setCell ⟨A, 1, none⟩ a1).setCell ⟨A, 2, none⟩ a2).setCell ⟨A, 3, none⟩ a3).setCell ⟨A, 4, none⟩ a4).setCell ⟨A, 5, none⟩ a5).setCell ⟨A, 6, none⟩ a6).heap[B]? = some (.cells #[y0, y1, y2, y3] t' (0, 0)) := by
      rw [heap_set_far _ hne, heap_set_far _ hne, heap_set_far _ hne, heap_set_far _ hne, heap_set_far _ hne, heap_set_far _ hne, heap_set_far _ hne]; exact hB
    rw [heap_set b3 (j := 3) (heap_set b2 (j := 2) (heap_set b1 (j := 1) (heap_set b0 (j := 0) h2)))]; rfl
theorem two_heaps2 {w : World} {A B : Nat} {t t' : TypeId} {x0 x1 x2 x3 x4 x5 x6 y0 y1 y2 y3 : Value} (hne : A ≠ B) (hA : w.heap[A]? = some (.cells #[x0, x1, x2, x3, x4, x5, x6] t (0, 0))) (hB : w.heap[B]? = some (.cells #[y0, y1, y2, y3] t' (0, 0))) (a0 a1 a2 a3 a4 a5 a6 b0 b1 b2 b3 : Value) :
    ((((((((((((w.setCell ⟨B, 0, none⟩ b0).setCell ⟨B, 1, none⟩ b1).setCell ⟨B, 2, none⟩ b2).setCell ⟨B, 3, none⟩ b3).setCell ⟨A, 0, none⟩ a0).setCell ⟨A, 1, none⟩ a1).setCell ⟨A, 2, none⟩ a2).setCell ⟨A, 3, none⟩ a3).setCell ⟨A, 4, none⟩ a4).setCell ⟨A, 5, none⟩ a5).setCell ⟨A, 6, none⟩ a6).heap[A]? = some (.cells #[a0, a1, a2, a3, a4, a5, a6] t (0, 0))) ∧
    ((((((((((((w.setCell ⟨B, 0, none⟩ b0).setCell ⟨B, 1, none⟩ b1).setCell ⟨B, 2, none⟩ b2).setCell ⟨B, 3, none⟩ b3).setCell ⟨A, 0, none⟩ a0).setCell ⟨A, 1, none⟩ a1).setCell ⟨A, 2, none⟩ a2).setCell ⟨A, 3, none⟩ a3).setCell ⟨A, 4, none⟩ a4).setCell ⟨A, 5, none⟩ a5).setCell ⟨A, 6, none⟩ a6).heap[B]? = some (.cells #[b0, b1, b2, b3] t' (0, 0))) := by
  have h1 := heap_set b3 (j := 3) (heap_set b2 (j := 2) (heap_set b1 (j := 1) (heap_set b0 (j := 0) hB)))
  constructor
  · have h2 : ((((w.setCell ⟨B, 0, none⟩ b0).setCell ⟨B, 1, none⟩ b1).setCell ⟨B, 2, none⟩ b2).setCell ⟨B, 3, none⟩ b3).heap[A]? = some (.cells #[x0, x1, x2, x3, x4, x5, x6] t (0, 0)) := by
      rw [heap_set_far _ (fun e : B = A => hne e.symm), heap_set_far _ (fun e : B = A => hne e.symm), heap_set_far _ (fun e : B = A => hne e.symm), heap_set_far _ (fun e : B = A => hne e.symm)]; exact hA
    rw [heap_set a6 (j := 6) (heap_set a5 (j := 5) (heap_set a4 (j := 4) (heap_set a3 (j := 3) (heap_set a2 (j := 2) (heap_set a1 (j := 1) (heap_set a0 (j := 0) h2))))))]; rfl
  · rw [heap_set_far _ hne, heap_set_far _ hne, heap_set_far _ hne, heap_set_far _ hne, heap_set_far _ hne, heap_set_far _ hne, heap_set_far _ hne, h1]; rfl
theorem far7 {w : World} {A b o : Nat} {c a0 a1 a2 a3 a4 a5 a6 : Value} (h : b ≠ A) (hc : w.cell? ⟨b, o, none⟩ = some c) :
    (((((((w.setCell ⟨A, 0, none⟩ a0).setCell ⟨A, 1, none⟩ a1).setCell ⟨A, 2, none⟩ a2).setCell ⟨A, 3, none⟩ a3).setCell ⟨A, 4, none⟩ a4).setCell ⟨A, 5, none⟩ a5).setCell ⟨A, 6, none⟩ a6).cell? ⟨b, o, none⟩ = some c :=
  far_cell h (far_cell h (far_cell h (far_cell h (far_cell h (far_cell h (far_cell h hc))))))
theorem far4 {w : World} {A b o : Nat} {c a0 a1 a2 a3 : Value} (h : b ≠ A) (hc : w.cell? ⟨b, o, none⟩ = some c) :
    ((((w.setCell ⟨A, 0, none⟩ a0).setCell ⟨A, 1, none⟩ a1).setCell ⟨A, 2, none⟩ a2).setCell ⟨A, 3, none⟩ a3).cell? ⟨b, o, none⟩ = some c :=
  far_cell h (far_cell h (far_cell h (far_cell h hc)))
theorem dr_cell {w : World} {p : Addr} {c : Value} (h : w.cell? p = some c) : w.drew.cell? p = some c := h
theorem below_seven {w0 w : World} {bs A : Nat} (h : Below bs w0 w) (hA : bs ≤ A) (a0 a1 a2 a3 a4 a5 a6 : Value) : Below bs w0 (((((((w.setCell ⟨A, 0, none⟩ a0).setCell ⟨A, 1, none⟩ a1).setCell ⟨A, 2, none⟩ a2).setCell ⟨A, 3, none⟩ a3).setCell ⟨A, 4, none⟩ a4).setCell ⟨A, 5, none⟩ a5).setCell ⟨A, 6, none⟩ a6) :=
  below_set (below_set (below_set (below_set (below_set (below_set (below_set h hA _) hA _) hA _) hA _) hA _) hA _) hA _
theorem below_four {w0 w : World} {bs A : Nat} (h : Below bs w0 w) (hA : bs ≤ A) (a0 a1 a2 a3 : Value) : Below bs w0 ((((w.setCell ⟨A, 0, none⟩ a0).setCell ⟨A, 1, none⟩ a1).setCell ⟨A, 2, none⟩ a2).setCell ⟨A, 3, none⟩ a3) :=
  below_set (below_set (below_set (below_set h hA _) hA _) hA _) hA _
/-! ### The list, when items go and come -/
theorem keptAt_left (l : List It) (i key i' key' : Nat) : keptAt (leftI (atB i key) l) i' key' = if i' = i ∧ key' = key then [] else keptAt l i' key' := by
  unfold keptAt leftI
  rw [List.filter_filter]
  by_cases h : i' = i ∧ key' = key
  · rw [if_pos h, h.1, h.2]
    rw [List.filter_eq_nil_iff.2 (by intro x _; cases atB i key x <;> simp)]
    rfl
  · rw [if_neg h]
    congr 1
    apply List.filter_congr
    intro x _
    rw [Bool.eq_iff_iff]
    unfold atB
    simp
    omega
theorem keptAt_add (l : List It) (i key a : Nat) (p : ByteArray) (i' key' : Nat) : keptAt (l ++ [(i, key, a, p)]) i' key' = keptAt l i' key' ++ if i' = i ∧ key' = key then [(a, p)] else [] := by
  unfold keptAt
  rw [List.filter_append, List.map_append]
  by_cases h : i' = i ∧ key' = key
  · rw [if_pos h, h.1, h.2]
    have e : atB i key (i, key, a, p) = true := by simp [atB]
    rw [List.filter_cons, if_pos e]; rfl
  · rw [if_neg h]
    have e : ¬ atB i' key' (i, key, a, p) = true := by
      unfold atB
      simp
      omega
    rw [List.filter_cons, if_neg e]; rfl
theorem leftI_mem {p : It → Bool} {l : List It} {x : It} (h : x ∈ leftI p l) : x ∈ l := (List.mem_filter.1 h).1
theorem leftI_len (p : It → Bool) (l : List It) : (leftI p l).length ≤ l.length := List.length_filter_le _ _
/-- All that some nodes keep by a key is gone. -/
def goneI (key : Nat) (U : List Nat) (l : List It) : List It := U.foldl (fun l i => leftI (atB i key) l) l
theorem goneI_kept (key : Nat) : ∀ (U : List Nat) (l : List It) (i' key' : Nat), keptAt (goneI key U l) i' key' = if i' ∈ U ∧ key' = key then [] else keptAt l i' key'
  | [], l, i', key' => by rw [if_neg (by simp)]; rfl
  | i :: t, l, i', key' => by
    show keptAt (goneI key t (leftI (atB i key) l)) i' key' = _
    rw [goneI_kept key t, keptAt_left]
    by_cases h1 : i' ∈ t ∧ key' = key
    · rw [if_pos h1, if_pos ⟨by simp [h1.1], h1.2⟩]
    · rw [if_neg h1]
      by_cases h2 : i' = i ∧ key' = key
      · rw [if_pos h2, if_pos ⟨by simp [h2.1], h2.2⟩]
      · rw [if_neg h2, if_neg (by
          rintro ⟨h3, h4⟩
          rcases List.mem_cons.1 h3 with h3 | h3
          · exact h2 ⟨h3, h4⟩
          · exact h1 ⟨h3, h4⟩)]
theorem goneI_mem (key : Nat) : ∀ (U : List Nat) (l : List It) (x : It), x ∈ goneI key U l → x ∈ l
  | [], _, _, h => h
  | i :: t, l, x, h => leftI_mem (goneI_mem key t _ x h)
theorem goneI_len (key : Nat) : ∀ (U : List Nat) (l : List It), (goneI key U l).length ≤ l.length
  | [], _ => Nat.le_refl _
  | i :: t, l => Nat.le_trans (goneI_len key t _) (leftI_len _ _)
def addI (key a k : Nat) (text : ByteArray) (U : List Nat) (l : List It) : List It := l ++ U.map fun i => (i, key, a, pcs text k i)
theorem addI_kept (key a k : Nat) (text : ByteArray) : ∀ (U : List Nat) (_ : U.Nodup) (l : List It) (i' key' : Nat), keptAt (addI key a k text U l) i' key' = keptAt l i' key' ++ if i' ∈ U ∧ key' = key then [(a, pcs text k i')] else []
  | [], _, l, i', key' => by
    rw [if_neg (by simp)]
    unfold addI
    simp
  | i :: t, hu, l, i', key' => by
    rw [List.nodup_cons] at hu
    have e : addI key a k text (i :: t) l = addI key a k text t (l ++ [(i, key, a, pcs text k i)]) := by unfold addI; simp
    rw [e, addI_kept key a k text t hu.2, keptAt_add, List.append_assoc]
    congr 1
    by_cases h1 : i' ∈ t ∧ key' = key
    · have e1 : i' ∈ i :: t ∧ key' = key := ⟨List.mem_cons_of_mem _ h1.1, h1.2⟩
      have e2 : ¬ (i' = i ∧ key' = key) := fun h2 => hu.1 (h2.1 ▸ h1.1)
      rw [if_pos h1, if_pos e1, if_neg e2]; rfl
    · rw [if_neg h1]
      by_cases h2 : i' = i ∧ key' = key
      · rw [if_pos h2, if_pos ⟨by simp [h2.1], h2.2⟩, h2.1]; rfl
      · rw [if_neg h2, if_neg (by
          rintro ⟨h3, h4⟩
          rcases List.mem_cons.1 h3 with h3 | h3
          · exact h2 ⟨h3, h4⟩
          · exact h1 ⟨h3, h4⟩)]; rfl
theorem putS_kp {a k key : Nat} {text : ByteArray} : ∀ (U : List Nat) (st : St) (i' key' : Nat), (U.foldl (putS a k text key) st).kp i' key' = if i' ∈ U ∧ key' = key then [(a, pcs text k i')] else st.kp i' key'
  | [], _, _, _ => by rw [if_neg (by simp)]; rfl
  | i :: t, st, i', key' => by
    rw [List.foldl_cons, putS_kp t]
    by_cases h1 : i' ∈ t ∧ key' = key
    · rw [if_pos h1, if_pos ⟨by simp [h1.1], h1.2⟩]
    · rw [if_neg h1]
      unfold putS
      by_cases h2 : i' = i ∧ key' = key
      · rw [h2.1, h2.2, St.set_at, if_pos (by simp)]
      · rw [St.set_far _ _ (by omega), if_neg (by
          rintro ⟨h3, h4⟩
          rcases List.mem_cons.1 h3 with h3 | h3
          · exact h2 ⟨h3, h4⟩
          · exact h1 ⟨h3, h4⟩)]
theorem tornS_kp {a k key : Nat} {text : ByteArray} : ∀ (U : List Nat) (_ : U.Nodup) (st : St) (i' key' : Nat), (U.foldl (tornS a k text key) st).kp i' key' = st.kp i' key' ++ if i' ∈ U ∧ key' = key then [(a, pcs text k i')] else []
  | [], _, _, _, _ => by rw [if_neg (by simp)]; simp
  | i :: t, hu, st, i', key' => by
    rw [List.nodup_cons] at hu
    rw [List.foldl_cons, tornS_kp t hu.2]
    unfold tornS
    by_cases h2 : i' = i ∧ key' = key
    · rw [h2.1, h2.2, St.set_at, if_neg (fun h => hu.1 h.1), if_pos (by simp)]; simp
    · rw [St.set_far _ _ (by omega)]
      congr 1
      by_cases h1 : i' ∈ t ∧ key' = key
      · rw [if_pos h1, if_pos ⟨by simp [h1.1], h1.2⟩]
      · rw [if_neg h1, if_neg (by
          rintro ⟨h3, h4⟩
          rcases List.mem_cons.1 h3 with h3 | h3
          · exact h2 ⟨h3, h4⟩
          · exact h1 ⟨h3, h4⟩)]
theorem tornS_dn {a k key : Nat} {text : ByteArray} (U : List Nat) (st : St) : (U.foldl (tornS a k text key) st).dn = st.dn := by
  induction U generalizing st with
  | nil => rfl
  | cons i t ih => rw [List.foldl_cons, ih]; rfl
theorem putS_dn' {a k key : Nat} {text : ByteArray} (U : List Nat) (st : St) : (U.foldl (putS a k text key) st).dn = st.dn := by
  induction U generalizing st with
  | nil => rfl
  | cons i t ih => rw [List.foldl_cons, ih]; rfl
end Go.Proofs.Ytioecklnijhjgaa
namespace Go.Proofs.Ytioecklnijhjgaa
open Go.RowKit

theorem kp_cells {w : World} {ao : Option Addr} {l : List Kp} (h : Reads w ao (kpCells l)) {k : Nat} (hk : k < l.length) :
    ∃ b o, ao = some ⟨b, o, none⟩ ∧ w.cell? ⟨b, o + k * 3, none⟩ = some (.int .i64 ((l[k]).1 : Int)) ∧ w.cell? ⟨b, o + k * 3 + 1, none⟩ = some (.int .i64 0) ∧ w.cell? ⟨b, o + k * 3 + 2, none⟩ = some (.string (l[k]).2) := by
  obtain ⟨g1, g2, g3⟩ := kpCells_get hk
  obtain ⟨b, o, rfl, c1⟩ := h _ _ g1
  obtain ⟨b2, o2, e2, c2⟩ := h _ _ g2
  obtain ⟨b3, o3, e3, c3⟩ := h _ _ g3
  cases e2; cases e3
  exact ⟨b, o, rfl, c1, by rw [Nat.add_assoc]; exact c2, by rw [Nat.add_assoc]; exact c3⟩
def IdxK (l : List Kp) (a : Nat) (r : Int) : Prop := (∃ (j : Nat) (x : Kp), l[j]? = some x ∧ x.1 = a ∧ r = j ∧ pick l a = x.2) ∨ ((∀ x ∈ l, x.1 ≠ a) ∧ r = -1 ∧ pick l a = ByteArray.empty)
theorem pick_at {l : List Kp} {a j : Nat} {x : Kp} (h : l[j]? = some x) (hx : x.1 = a) (hno : ∀ i y, i < j → l[i]? = some y → y.1 ≠ a) : pick l a = x.2 := by
  have : l.find? (fun x => x.1 == a) = some x := by
    induction l generalizing j with
    | nil => simp at h
    | cons y t ih =>
      cases j with
      | zero => simp at h; subst h; simp [hx]
      | succ j =>
        have hy := hno 0 y (by omega) rfl
        rw [List.find?_cons, show (y.1 == a) = false from by simpa using hy]
        exact ih (by simpa using h) (fun i z hi hz => hno (i + 1) z (by omega) (by simpa using hz))
  unfold pick
  rw [this]
theorem pick_no {l : List Kp} {a : Nat} (h : ∀ x ∈ l, x.1 ≠ a) : pick l a = ByteArray.empty := by
  have : l.find? (fun x => x.1 == a) = none := by
    rw [List.find?_eq_none]
    intro x hx
    simpa using h x hx
  unfold pick
  rw [this]
theorem find_clo (x : Nat) (s : ByteArray) (a bb : Nat) (W : World) (c0 : W.cell? ⟨bb, 0, none⟩ = some (.int .i64 (a : Int))) (c1 : W.cell? ⟨bb, 1, none⟩ = some (.int .i64 0)) :
    Calls Try.prog 74 #[.agg #[.int .i64 (x : Int), .int .i64 0, .string s], .pointer (some ⟨bb, 0, none⟩)] W (fun e w' => e = .returned (.bool (decide (x = a))) ∧ Below W.heap.size W w') := by
  have hlt := World.block_lt_of_cell? W _ c0
  have hba := below_alloc W (.cells #[.int .i64 (x : Int), .int .i64 0, .string s] 50)
  have e0 := (hba.cell (p := ⟨bb, 0, none⟩) hlt).trans c0
  have e1 := (hba.cell (p := ⟨bb, 1, none⟩) hlt).trans c1
  clear hba
  by_cases h : x = a
  · have t : ((x : Int) == (a : Int)) = true := by simp; omega
    have d : decide (x = a) = true := by simpa using h
    rw [d]
    have hb := Lib.hid (below_alloc W (.cells #[.int .i64 (x : Int), .int .i64 0, .string s] 50))
    clear h d
    go_enter Try.func74, Try.ntmps74
    go_wp2_with fail
    go_ret
    exact ⟨by simp, hb.out⟩
  · have t : ((x : Int) == (a : Int)) = false := by simp; omega
    have d : decide (x = a) = false := by simpa using h
    rw [d]
    have hb := Lib.hid (below_alloc W (.cells #[.int .i64 (x : Int), .int .i64 0, .string s] 50))
    clear h d
    go_enter Try.func74, Try.ntmps74
    go_wp2_with fail
    go_ret
    exact ⟨by simp, hb.out⟩
theorem run_find (x c : Value) (W : World) : (callFunc 74 #[x, c]).run Try.prog W = .ok (.enter 74 #[x, c]) W := by kernel_rfl
set_option maxRecDepth 20000 in
set_option maxHeartbeats 1000000 in
theorem index_kept (l : List Kp) (n a bb : Nat) (ao : Option Addr) (cap : Nat) (w : World) (hl : l.length = n) (hn : n ≤ 9223372036854775807) (hR : Hid (Reads w ao (kpCells l)))
    (c0 : w.cell? ⟨bb, 0, none⟩ = some (.int .i64 (a : Int))) (c1 : w.cell? ⟨bb, 1, none⟩ = some (.int .i64 0)) :
    Calls Try.prog 73 #[.slice ao n cap, .func (.func 74) #[] #[.pointer (some ⟨bb, 0, none⟩)]] w (fun e w' => ∃ r, e = .returned (.int .i64 r) ∧ IdxK l a r ∧ Below w.heap.size w w') := by
  have HL := Lib.hid hl
  have hfn := run_find
  have HBB : Hid (bb < w.heap.size) := Lib.hid (World.block_lt_of_cell? w _ c0)
  have HC0 := Lib.hid c0
  have HC1 := Lib.hid c1
  clear hl c0 c1
  go_enter Try.func73, Try.ntmps73
  go_wp2_with fail
  go_loopw [8] (fun vi wr => ∃ k : Nat, vi = .int .i64 k ∧ k ≤ n ∧ Hid (∀ i y, i < k → l[i]? = some y → y.1 ≠ a) ∧ Hid (Below w.heap.size w wr)) (fun vi _ => n - (intOf vi).toNat)
  case atStart => exact ⟨0, rfl, by omega, Lib.hid (by intro j y hj; omega), Lib.hid (Below.refl _ _)⟩
  case round =>
    obtain ⟨k, rfl, hk, hno, HB⟩ := hrel
    obtain ⟨wo, rfl⟩ : ∃ wo, wo = wr := ⟨_, rfl⟩
    by_cases hkl : k < n
    · obtain ⟨b, o, rfl, x0, x1, x2⟩ := kp_cells (hR.out.below HB.out) (k := k) (by rw [HL.out]; exact hkl)
      obtain ⟨x, hx⟩ : ∃ x, l[k]'(by rw [HL.out]; exact hkl) = x := ⟨_, rfl⟩
      have HX : Hid (l[k]? = some x) := Lib.hid (by rw [List.getElem?_eq_getElem (by rw [HL.out]; exact hkl), hx])
      rw [hx] at x0 x2
      obtain ⟨p, s⟩ := x
      have C := Lib.hid (find_clo p s a bb wo ((HB.out.cell (p := ⟨bb, 0, none⟩) HBB.out).trans HC0.out) ((HB.out.cell (p := ⟨bb, 1, none⟩) HBB.out).trans HC1.out))
      clear hx
      by_cases h : p = a
      · have d : decide (p = a) = true := by simpa using h
        rw [d] at C
        have H := Lib.hid h
        clear h d
        go_wp2_with fail
        (with_reducible refine C.out.mono ?_)
        rintro e w' ⟨rfl, hb⟩
        have HB1 := Lib.hid (HB.out.trans (hb.mono HB.out.size))
        clear hb
        go_wp2_with fail
        go_ret
        exact ⟨_, rfl, .inl ⟨k, (p, s), HX.out, H.out, rfl, pick_at HX.out H.out hno.out⟩, HB1.out⟩
      · have d : decide (p = a) = false := by simpa using h
        rw [d] at C
        have H := Lib.hid h
        clear h d
        go_wp2_with fail
        (with_reducible refine C.out.mono ?_)
        rintro e w' ⟨rfl, hb⟩
        have HB1 := Lib.hid (HB.out.trans (hb.mono HB.out.size))
        clear hb
        go_wp2_with fail
        go_roundw
        case rel => exact ⟨k + 1, by go_num, by omega, Lib.hid (by
          intro i y hi hy
          by_cases he : i = k
          · subst he; rw [HX.out] at hy; cases hy; exact H.out
          · exact hno.out i y (by omega) hy), HB1⟩
        case measure => simp [intOf]; omega
    · obtain rfl : n = k := by omega
      go_wp2_with fail
      go_ret
      have hall : ∀ x ∈ l, x.1 ≠ a := by
        intro x hx
        obtain ⟨j, hj⟩ := List.getElem?_of_mem hx
        have := (List.getElem?_eq_some_iff.1 hj).1
        exact hno.out j x (by have := HL.out; omega) hj
      exact ⟨_, rfl, .inr ⟨hall, rfl, pick_no hall⟩, HB.out⟩
def FindPost (s : ByteArray) (w : World) (e : Ending) (w' : World) : Prop := ∃ b, e = .returned (.tuple #[.string s, .bool b]) ∧ Below w.heap.size w w'
set_option maxRecDepth 20000 in
theorem store_find (l : List Kp) (n a : Nat) (ao : Option Addr) (cap : Nat) (w : World) (hl : l.length = n) (hn : n ≤ 9223372036854775807) (hR : Hid (Reads w ao (kpCells l))) :
    Calls Try.prog 57 #[.slice ao n cap, .agg #[.int .i64 (a : Int), .int .i64 0]] w (FindPost (pick l a) w) := by
  obtain ⟨W1, hW1⟩ : ∃ W1, w.alloc (.cells #[.int .i64 (a : Int), .int .i64 0] 38) = W1 := ⟨_, rfl⟩
  have hbel : Below w.heap.size w W1 := by rw [← hW1]; exact below_alloc _ _
  have c0 : W1.cell? ⟨w.heap.size, 0, none⟩ = some (.int .i64 (a : Int)) := by rw [← hW1]; simp [World.cell?_alloc_new]
  have c1 : W1.cell? ⟨w.heap.size, 1, none⟩ = some (.int .i64 0) := by rw [← hW1]; simp [World.cell?_alloc_new]
  have C := Lib.hid (index_kept l n a w.heap.size ao cap W1 hl hn (Lib.hid (hR.out.below hbel)) c0 c1)
  have HB := Lib.hid hbel
  have HL := Lib.hid hl
  clear hbel hl c0 c1
  go_enter Try.func57, Try.ntmps57
  go_wp2_with fail
  (with_reducible refine C.out.mono ?_)
  rintro e w2 ⟨r, rfl, hr, hb⟩
  have HB2 := Lib.hid (HB.out.trans (hb.mono HB.out.size))
  rcases hr with ⟨j, x, hx, hxa, rfl, hp⟩ | ⟨_, rfl, hp⟩
  · have hj := (List.getElem?_eq_some_iff.1 hx).1
    obtain ⟨b, o, rfl, x0, x1, x2⟩ := kp_cells (hR.out.below HB2.out) hj
    rw [(List.getElem?_eq_some_iff.1 hx).2] at x0 x2
    have HP := Lib.hid hp
    have hjn : j < n := by have := HL.out; omega
    clear hb hp hx hxa hj C
    go_wp2_with fail
    go_ret2
    exact ⟨true, by rw [HP.out]; rfl, HB2.out⟩
  · have HP := Lib.hid hp
    clear hb hp C
    go_wp2_with fail
    go_ret2
    exact ⟨false, by rw [HP.out]; rfl, HB2.out⟩
end Go.Proofs.Ytioecklnijhjgaa
