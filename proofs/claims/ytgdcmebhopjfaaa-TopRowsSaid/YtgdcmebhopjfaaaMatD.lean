/- Determinants over the field of 256 elements, where adding and taking off are one. Plain algebra. -/
import Derived.Test.YtgdcmebhopjfaaaMatM
namespace Go.Proofs.Ytgdcmebhopjfaaa

/-- The values of f at a list's numbers, together. -/
def sumO (f : Nat → GF) : List Nat → GF
  | [] => 0
  | k :: l => f k + sumO f l
theorem sumO_congr {f g : Nat → GF} : ∀ {l : List Nat}, (∀ k ∈ l, f k = g k) → sumO f l = sumO g l
  | [], _ => rfl
  | k :: l, h => by show f k + _ = g k + _; rw [h k (List.mem_cons_self ..), sumO_congr fun j hj => h j (List.mem_cons_of_mem _ hj)]
theorem sumO_zero {f : Nat → GF} : ∀ {l : List Nat}, (∀ k ∈ l, f k = 0) → sumO f l = 0
  | [], _ => rfl
  | k :: l, h => by show f k + _ = 0; rw [h k (List.mem_cons_self ..), sumO_zero fun j hj => h j (List.mem_cons_of_mem _ hj), g_add_zero]
theorem sumO_add (f g : Nat → GF) : ∀ l, sumO (fun k => f k + g k) l = sumO f l + sumO g l
  | [] => (g_add_zero 0).symm
  | k :: l => by show (f k + g k) + sumO _ l = (f k + sumO f l) + (g k + sumO g l); rw [sumO_add f g l]; ac_rfl
theorem sumO_smul (c : GF) (f : Nat → GF) : ∀ l, sumO (fun k => c * f k) l = c * sumO f l
  | [] => (g_mul_zero c).symm
  | k :: l => by show c * f k + sumO _ l = c * (f k + sumO f l); rw [sumO_smul c f l, g_mul_add]
theorem sumO_swap (f : Nat → Nat → GF) (m : List Nat) : ∀ l, sumO (fun i => sumO (fun j => f i j) m) l = sumO (fun j => sumO (fun i => f i j) l) m
  | [] => (sumO_zero fun _ _ => rfl).symm
  | k :: l => by
    show sumO (fun j => f k j) m + sumO _ l = _
    rw [sumO_swap f m l, ← sumO_add]
    rfl
theorem sumO_append (f : Nat → GF) : ∀ l m, sumO f (l ++ m) = sumO f l + sumO f m
  | [], m => (g_zero_add _).symm
  | k :: l, m => by show f k + sumO f (l ++ m) = f k + sumO f l + sumO f m; rw [sumO_append f l m, gfld.add_assoc]
theorem sumO_erase (f : Nat → GF) (k : Nat) : ∀ {l : List Nat}, l.Nodup → sumO f (l.erase k) = sumO (fun j => if j = k then 0 else f j) l
  | [], _ => rfl
  | a :: l, h => by
    rw [List.nodup_cons] at h
    by_cases he : a = k
    · subst he
      rw [List.erase_cons_head]
      show _ = (if a = a then 0 else f a) + sumO _ l
      rw [if_pos rfl, g_zero_add]
      exact sumO_congr fun j hj => by rw [if_neg fun (e : j = a) => h.1 (e ▸ hj)]
    · rw [List.erase_cons_tail (by simpa using he)]
      show f a + _ = (if a = k then 0 else f a) + sumO _ l
      rw [if_neg he, sumO_erase f k h.2]
/-- A table that is the same either way and has noughts on its diagonal: all its numbers together are nought. -/
theorem sumO_sym {f : Nat → Nat → GF} (hs : ∀ i j, f i j = f j i) (h0 : ∀ i, f i i = 0) : ∀ l, sumO (fun i => sumO (f i) l) l = 0
  | [] => rfl
  | a :: l => by
    show (f a a + sumO (f a) l) + sumO (fun i => f i a + sumO (f i) l) l = 0
    rw [sumO_add, sumO_sym hs h0 l, h0 a, g_zero_add, g_add_zero, sumO_congr fun i _ => hs i a]
    exact g_self _
/-- The determinant of rows, at some columns, by its last row's numbers. -/
def detL : List (Nat → GF) → List Nat → GF
  | [], _ => 1
  | r :: rs, cols => sumO (fun k => r k * detL rs (cols.erase k)) cols
theorem detL_two (r s : Nat → GF) (rs : List (Nat → GF)) {cols : List Nat} (hc : cols.Nodup) :
    detL (r :: s :: rs) cols = sumO (fun k => sumO (fun l => if l = k then 0 else r k * s l * detL rs ((cols.erase k).erase l)) cols) cols := by
  show sumO (fun k => r k * sumO (fun l => s l * detL rs ((cols.erase k).erase l)) (cols.erase k)) cols = _
  refine sumO_congr fun k _ => ?_
  rw [sumO_erase _ _ hc, ← sumO_smul]
  refine sumO_congr fun l _ => ?_
  split
  · exact g_mul_zero _
  · exact (gfld.mul_assoc _ _ _).symm
theorem detL_swap (r s : Nat → GF) (rs : List (Nat → GF)) {cols : List Nat} (hc : cols.Nodup) : detL (r :: s :: rs) cols = detL (s :: r :: rs) cols := by
  rw [detL_two r s rs hc, detL_two s r rs hc, sumO_swap]
  refine sumO_congr fun k _ => sumO_congr fun l _ => ?_
  by_cases h : l = k
  · rw [if_pos h, if_pos h.symm]
  · rw [if_neg h, if_neg fun e => h e.symm, List.erase_comm]
    ac_rfl
theorem detL_same (r : Nat → GF) (rs : List (Nat → GF)) {cols : List Nat} (hc : cols.Nodup) : detL (r :: r :: rs) cols = 0 := by
  rw [detL_two r r rs hc]
  refine sumO_sym (f := fun k l => if l = k then 0 else r k * r l * detL rs ((cols.erase k).erase l)) (fun k l => ?_) (fun k => if_pos rfl) cols
  by_cases h : l = k
  · rw [if_pos h, if_pos h.symm]
  · rw [if_neg h, if_neg fun e => h e.symm, List.erase_comm]
    ac_rfl
theorem detL_perm {l m : List (Nat → GF)} (h : l.Perm m) : ∀ {cols : List Nat}, cols.Nodup → detL l cols = detL m cols := by
  induction h with
  | nil => intro _ _; rfl
  | cons x h ih => intro cols hc; exact sumO_congr fun k _ => by rw [ih (hc.erase k)]
  | swap x y l => intro cols hc; exact detL_swap y x l hc
  | trans _ _ ih1 ih2 => intro cols hc; rw [ih1 hc, ih2 hc]
theorem detL_mul (r : Nat → GF) (c : GF) (rs : List (Nat → GF)) (cols : List Nat) : detL ((fun j => r j * c) :: rs) cols = detL (r :: rs) cols * c := by
  show sumO (fun k => r k * c * detL rs (cols.erase k)) cols = sumO (fun k => r k * detL rs (cols.erase k)) cols * c
  rw [gfld.mul_comm _ c, ← sumO_smul]
  exact sumO_congr fun k _ => by ac_rfl
theorem detL_add (r s : Nat → GF) (rs : List (Nat → GF)) (cols : List Nat) : detL ((fun j => r j + s j) :: rs) cols = detL (r :: rs) cols + detL (s :: rs) cols := by
  show sumO (fun k => (r k + s k) * detL rs (cols.erase k)) cols = _ + _
  rw [sumO_congr fun k _ => g_add_mul (r k) (s k) _, sumO_add]
  rfl
theorem detL_nought (rs : List (Nat → GF)) {r : Nat → GF} {cols : List Nat} (h : ∀ j ∈ cols, r j = 0) : detL (r :: rs) cols = 0 :=
  sumO_zero fun k hk => by rw [h k hk, g_zero_mul]
theorem detL_off (r s : Nat → GF) (c : GF) (rs : List (Nat → GF)) {cols : List Nat} (hc : cols.Nodup) : detL ((fun j => r j + s j * c) :: s :: rs) cols = detL (r :: s :: rs) cols := by
  rw [detL_add, detL_mul, detL_same _ _ hc, g_zero_mul, g_add_zero]
/-- Rows of R numbers, n of them. -/
def rowsL (M : Mt) (n : Nat) : List (Nat → GF) := (List.range n).map M
def detG (n : Nat) (M : Mt) : GF := detL (rowsL M n) (List.range n)
theorem detL_congr : ∀ {l m : List (Nat → GF)} {cols : List Nat}, l.length = m.length → (∀ (i : Nat) (r s : Nat → GF), l[i]? = some r → m[i]? = some s → ∀ j ∈ cols, r j = s j) → detL l cols = detL m cols
  | [], [], _, _, _ => rfl
  | r :: l, s :: m, cols, hl, h => by
    refine sumO_congr fun k hk => ?_
    rw [h 0 r s rfl rfl k hk, detL_congr (l := l) (m := m) (by simpa using hl) fun i r' s' h1 h2 j hj => h (i + 1) r' s' h1 h2 j (List.mem_of_mem_erase hj)]
  | [], _ :: _, _, hl, _ => by simp at hl
  | _ :: _, [], _, hl, _ => by simp at hl
theorem detG_congr {n : Nat} {A B : Mt} (h : ∀ i, i < n → ∀ j, j < n → A i j = B i j) : detG n A = detG n B := by
  refine detL_congr (by simp [rowsL]) fun i r s h1 h2 j hj => ?_
  unfold rowsL at h1 h2
  rw [List.getElem?_map] at h1 h2
  by_cases hi : i < n
  · rw [List.getElem?_range hi] at h1 h2
    cases h1; cases h2
    exact h i hi j (List.mem_range.1 hj)
  · rw [List.getElem?_eq_none (by simpa using hi)] at h1
    cases h1
/-- One row ahead of all others. -/
theorem rowsL_one (M : Mt) {n a : Nat} (ha : a < n) : (rowsL M n).Perm (M a :: ((List.range n).erase a).map M) := (List.perm_cons_erase (List.mem_range.2 ha)).map M
theorem rowsL_two (M : Mt) {n a b : Nat} (ha : a < n) (hb : b < n) (hne : b ≠ a) : (rowsL M n).Perm (M a :: M b :: (((List.range n).erase a).erase b).map M) := by
  refine (rowsL_one M ha).trans (List.Perm.cons _ ?_)
  exact (List.perm_cons_erase ((List.mem_erase_of_ne hne).2 (List.mem_range.2 hb))).map M
theorem map_off {A B : Mt} {l : List Nat} (h : ∀ i ∈ l, A i = B i) : l.map A = l.map B := List.map_congr_left h
theorem mem_er {n a i : Nat} (h : i ∈ (List.range n).erase a) : i ≠ a := fun e => (List.nodup_range.not_mem_erase (a := a)) (e ▸ h)
theorem mem_er2 {n a b i : Nat} (h : i ∈ ((List.range n).erase a).erase b) : i ≠ a ∧ i ≠ b :=
  ⟨mem_er (List.mem_of_mem_erase h), fun e => ((List.nodup_range.erase a).not_mem_erase (a := b)) (e ▸ h)⟩
theorem detG_swap {n a b : Nat} (M : Mt) (ha : a < n) (hb : b < n) : detG n (swapR M a b) = detG n M := by
  have hnd : (List.range n).Nodup := List.nodup_range
  by_cases hne : b = a
  · subst hne
    refine detG_congr fun i _ j _ => ?_
    unfold swapR
    split
    · subst_vars; rfl
    · rfl
  · unfold detG
    rw [detL_perm (rowsL_two (swapR M a b) ha hb hne) hnd, detL_perm (rowsL_two M ha hb hne) hnd]
    rw [map_off (B := M) fun i hi => by unfold swapR; rw [if_neg (mem_er2 hi).1, if_neg (mem_er2 hi).2]]
    rw [show swapR M a b a = M b by unfold swapR; rw [if_pos rfl], show swapR M a b b = M a by unfold swapR; rw [if_neg hne, if_pos rfl]]
    exact detL_swap _ _ _ hnd
theorem detG_mul {n a : Nat} (M : Mt) (c : GF) (ha : a < n) : detG n (mulR M a c) = detG n M * c := by
  have hnd : (List.range n).Nodup := List.nodup_range
  unfold detG
  rw [detL_perm (rowsL_one (mulR M a c) ha) hnd, detL_perm (rowsL_one M ha) hnd]
  rw [map_off (B := M) fun i hi => by funext j; unfold mulR; rw [if_neg (mem_er hi)]]
  rw [show mulR M a c a = fun j => M a j * c by funext j; unfold mulR; rw [if_pos rfl]]
  exact detL_mul _ _ _ _
theorem detG_off {n a c k : Nat} (M : Mt) (ha : a < n) : detG n (offR M a c k) = detG n M := by
  have hnd : (List.range n).Nodup := List.nodup_range
  by_cases hk : k < n ∧ a ≠ k
  · unfold detG
    rw [detL_perm (rowsL_two (offR M a c k) hk.1 ha hk.2) hnd, detL_perm (rowsL_two M hk.1 ha hk.2) hnd]
    rw [map_off (B := M) fun i hi => by funext j; unfold offR; rw [if_neg fun h => (mem_er2 hi).1 h.1]]
    rw [show offR M a c k k = fun j => M k j + M a j * M k c by funext j; unfold offR; rw [if_pos ⟨rfl, fun e => hk.2 e.symm⟩]]
    rw [show offR M a c k a = M a by funext j; unfold offR; rw [if_neg (by omega)]]
    exact detL_off _ _ _ _ hnd
  · refine detG_congr fun i hi j _ => ?_
    unfold offR
    rw [if_neg (by omega)]
theorem detG_offs {n a c : Nat} (M : Mt) (ha : a < n) : ∀ k, detG n (offs M a c k) = detG n M
  | 0 => by rw [offs_zero]
  | k + 1 => by rw [offs_succ, detG_off _ ha, detG_offs M ha k]
theorem detG_step {n r k c : Nat} (M : Mt) (hr : r < n) (hk : k < n) (h0 : M k c ≠ 0) : M k c * detG n (stepR n M r k c) = detG n M := by
  unfold stepR
  rw [detG_offs _ hr, detG_mul _ _ hr, detG_swap _ hr hk, gfld.mul_comm (detG n M), ← gfld.mul_assoc, gfld.mul_inv _ h0, g_one_mul]
theorem detL_units : ∀ {l : List Nat}, l.Nodup → detL (l.map fun i j => if i = j then (1 : GF) else 0) l = 1
  | [], _ => rfl
  | a :: l, h => by
    rw [List.nodup_cons] at h
    show sumO (fun k => (if a = k then (1 : GF) else 0) * detL (l.map fun i j => if i = j then (1 : GF) else 0) ((a :: l).erase k)) (a :: l) = 1
    show (if a = a then (1 : GF) else 0) * detL (l.map fun i j => if i = j then (1 : GF) else 0) ((a :: l).erase a) + sumO _ l = 1
    rw [if_pos rfl, List.erase_cons_head, detL_units h.2, g_one_mul, sumO_zero fun k hk => by rw [if_neg fun e => h.1 (by rw [e]; exact hk), g_zero_mul], g_add_zero]
theorem detG_unit {n : Nat} {M : Mt} (h : ∀ i, i < n → ∀ c, c < n → M i c = if i = c then 1 else 0) : detG n M = 1 := by
  rw [detG_congr (B := fun i j => if i = j then (1 : GF) else 0) h]
  exact detL_units List.nodup_range
theorem detG_nought {n i : Nat} {M : Mt} (hi : i < n) (h : ∀ j, j < n → M i j = 0) : detG n M = 0 := by
  unfold detG
  rw [detL_perm (rowsL_one M hi) List.nodup_range]
  exact detL_nought _ fun j hj => h j (List.mem_range.1 hj)
/-! ### By sets of columns -/
/-- The columns of a set. -/
def colsOf (n s : Nat) : List Nat := (List.range n).filter fun k => s.testBit k
/-- The first t rows, the last one first. -/
def rowsR (M : Mt) : Nat → List (Nat → GF)
  | 0 => []
  | t + 1 => M t :: rowsR M t
theorem rowsR_perm (M : Mt) : ∀ n, (rowsR M n).Perm (rowsL M n)
  | 0 => .nil
  | n + 1 => by
    have e : rowsL M (n + 1) = rowsL M n ++ [M n] := by simp [rowsL, List.range_succ]
    rw [e]
    exact (List.Perm.cons _ (rowsR_perm M n)).trans (List.perm_append_singleton _ _).symm
def detS (M : Mt) (n s : Nat) : GF := detL (rowsR M (colsOf n s).length) (colsOf n s)
theorem colsOf_all (n : Nat) : colsOf n (2 ^ n - 1) = List.range n := by
  unfold colsOf
  rw [List.filter_eq_self]
  intro k hk
  rw [Nat.testBit_two_pow_sub_one]
  simpa using hk
theorem detS_all (M : Mt) (n : Nat) : detS M n (2 ^ n - 1) = detG n M := by
  unfold detS detG
  rw [colsOf_all, List.length_range]
  exact detL_perm (rowsR_perm M n) List.nodup_range
theorem colsOf_zero (n : Nat) : colsOf n 0 = [] := by simp [colsOf]
theorem detS_zero (M : Mt) (n : Nat) : detS M n 0 = 1 := by unfold detS; rw [colsOf_zero]; rfl
theorem filter_erase (p : Nat → Bool) (k : Nat) : ∀ {l : List Nat}, l.Nodup → (l.filter p).erase k = l.filter fun j => p j && decide (j ≠ k)
  | [], _ => rfl
  | a :: l, h => by
    rw [List.nodup_cons] at h
    have hl : ∀ {q : Nat → Bool}, a = k → l.filter (fun j => q j && decide (j ≠ k)) = l.filter q := fun e => List.filter_congr fun j hj => by
      have : j ≠ k := fun e2 => h.1 (by rw [e, ← e2]; exact hj)
      simp [this]
    by_cases hp : p a = true
    · rw [List.filter_cons_of_pos hp]
      by_cases he : a = k
      · subst he
        rw [List.erase_cons_head, List.filter_cons_of_neg (by simp), hl rfl]
      · rw [List.erase_cons_tail (by simpa using he), filter_erase p k h.2, List.filter_cons_of_pos (by simp [hp, he])]
    · rw [List.filter_cons_of_neg hp, filter_erase p k h.2, List.filter_cons_of_neg (by simp [hp])]
theorem colsOf_erase {n s s' k : Nat} (h : ∀ j, j < n → s'.testBit j = (s.testBit j && decide (j ≠ k))) : colsOf n s' = (colsOf n s).erase k := by
  unfold colsOf
  rw [filter_erase _ _ List.nodup_range]
  exact List.filter_congr fun j hj => h j (List.mem_range.1 hj)
/-- A set's determinant, by those of the sets with one column less. -/
theorem detS_step (M : Mt) {n s row : Nat} (hr : (colsOf n s).length = row + 1) (sub : Nat → Nat) (hsub : ∀ k, k < n → s.testBit k = true → ∀ j, j < n → (sub k).testBit j = (s.testBit j && decide (j ≠ k))) :
    detS M n s = sumG (fun k => if s.testBit k = true then M row k * detS M n (sub k) else 0) n := by
  have key : ∀ m, m ≤ n → sumO (fun k => M row k * detL (rowsR M row) ((colsOf n s).erase k)) (colsOf m s) = sumG (fun k => if s.testBit k = true then M row k * detS M n (sub k) else 0) m := by
    intro m
    induction m with
    | zero => intro _; rfl
    | succ m ih =>
      intro hm
      have e : colsOf (m + 1) s = colsOf m s ++ (if s.testBit m = true then [m] else []) := by
        unfold colsOf
        rw [List.range_succ, List.filter_append]
        congr 1
        by_cases h : s.testBit m = true
        · rw [if_pos h, List.filter_cons_of_pos h]; rfl
        · rw [if_neg h, List.filter_cons_of_neg h]; rfl
      rw [e, sumO_append, ih (by omega)]
      show _ = sumG _ m + (if s.testBit m = true then M row m * detS M n (sub m) else 0)
      congr 1
      by_cases h : s.testBit m = true
      · rw [if_pos h, if_pos h]
        show _ + 0 = _
        rw [g_add_zero]
        have e2 : colsOf n (sub m) = (colsOf n s).erase m := colsOf_erase fun j hj => hsub m (by omega) h j hj
        have hmem : m ∈ colsOf n s := List.mem_filter.2 ⟨List.mem_range.2 (by omega), h⟩
        unfold detS
        rw [e2, List.length_erase_of_mem hmem, hr, Nat.add_sub_cancel]
      · rw [if_neg h, if_neg h]
        rfl
  rw [← key n (Nat.le_refl n)]
  unfold detS
  rw [hr]
  rfl
end Go.Proofs.Ytgdcmebhopjfaaa
