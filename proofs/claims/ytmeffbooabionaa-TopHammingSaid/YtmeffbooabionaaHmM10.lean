/- LAGRANGE's and NEWTON's polynomials are one; the field of 256 elements as a type. Plain algebra. -/
import Derived.Test.YtmeffbooabionaaFld
import Derived.Test.YtmeffbooabionaaHmM6
set_option linter.unusedVariables false
set_option linter.unusedSimpArgs false
namespace Go.Proofs.Ytmeffbooabionaa
set_option linter.unusedSectionVars false

section
variable {α : Type} [Add α] [Mul α] [Neg α] [Zero α] [One α] [Inv α] (F : Fld α)
include F
omit F in
/-- y times (x - q) / (p - q) of the first m places but i. -/
def lagT (xs : Nat → α) (y : α) (i : Nat) (x : α) : Nat → α
  | 0 => y
  | m + 1 => if m = i then lagT xs y i x m else lagT xs y i x m * ((x + -xs m) * (xs i + -xs m)⁻¹)
omit F in
/-- LAGRANGE's value: the terms of the first m places, of k. -/
def lagS (xs ys : Nat → α) (k : Nat) (x : α) : Nat → α
  | 0 => 0
  | i + 1 => lagS xs ys k x i + lagT xs (ys i) i x k
omit F in
def lag (xs ys : Nat → α) (k : Nat) (x : α) : α := lagS xs ys k x k

theorem lagT_poly (xs : Nat → α) (y : α) (i : Nat) (m : Nat) : PolyF (if i < m then m else m + 1) (fun x => lagT xs y i x m) := by
  induction m with
  | zero => simp only [Nat.not_lt_zero, if_false]; exact PolyF.const F y
  | succ m ih =>
    have key : ∀ {k : Nat}, PolyF k (fun x => lagT xs y i x m) → PolyF (k + 1) (fun x => lagT xs y i x m * ((x + -xs m) * (xs i + -xs m)⁻¹)) := by
      intro k h
      refine (PolyF.smul F (xs i + -xs m)⁻¹ (PolyF.lin F (-xs m) h)).ext fun x => ?_
      rw [F.mul_comm, F.mul_comm (x + -xs m), F.mul_assoc]
    by_cases h : m = i
    · subst h
      rw [if_neg (by omega)] at ih
      rw [if_pos (by omega)]
      exact ih.ext fun x => by simp [lagT]
    · have e : ∀ x, lagT xs y i x m * ((x + -xs m) * (xs i + -xs m)⁻¹) = lagT xs y i x (m + 1) := fun x => by simp [lagT, h]
      by_cases h2 : i < m
      · rw [if_pos h2] at ih
        rw [if_pos (by omega)]
        exact (key ih).ext e
      · rw [if_neg h2] at ih
        rw [if_neg (by omega)]
        exact (key ih).ext e
theorem lagT_other (xs : Nat → α) (y : α) {i j m : Nat} (hij : j ≠ i) (hj : j < m) : lagT xs y i (xs j) m = 0 := by
  induction m with
  | zero => omega
  | succ m ih =>
    simp only [lagT]
    by_cases h : m = j
    · subst h
      rw [if_neg hij, F.add_neg, F.zero_mul, F.mul_zero]
    · split
      · exact ih (by omega)
      · rw [ih (by omega), F.zero_mul]
theorem lagT_self (xs : Nat → α) (y : α) {i m : Nat} (hd : ∀ j, j < m → j ≠ i → xs i ≠ xs j) : lagT xs y i (xs i) m = y := by
  induction m with
  | zero => rfl
  | succ m ih =>
    have h2 := ih (fun j h1 h2 => hd j (by omega) h2)
    simp only [lagT]
    split
    · exact h2
    · rename_i h
      rw [h2, F.mul_inv _ (F.sub_ne_zero (hd m (by omega) h)), F.mul_one]
theorem lagS_poly (xs ys : Nat → α) {k m : Nat} (hm : m ≤ k) : PolyF k (fun x => lagS xs ys k x m) := by
  induction m with
  | zero => exact PolyF.zero F k
  | succ m ih =>
    have h := lagT_poly F xs (ys m) m k
    rw [if_pos (by omega)] at h
    exact PolyF.add F (ih (by omega)) h
theorem lagS_at (xs ys : Nat → α) {k m j : Nat} (hm : m ≤ k) (hj : j < k) (hd : ∀ i j, i < k → j < k → i ≠ j → xs i ≠ xs j) : lagS xs ys k (xs j) m = if j < m then ys j else 0 := by
  induction m with
  | zero => rfl
  | succ m ih =>
    simp only [lagS]
    rw [ih (by omega)]
    by_cases h : j = m
    · subst h
      rw [if_neg (by omega), if_pos (by omega), F.zero_add, lagT_self F xs (ys j) (fun i h1 h2 => hd j i hj h1 (Ne.symm h2))]
    · rw [lagT_other F xs (ys m) h hj, F.add_zero]
      by_cases h2 : j < m
      · rw [if_pos h2, if_pos (by omega)]
      · rw [if_neg h2, if_neg (by omega)]
theorem lag_at (xs ys : Nat → α) {k j : Nat} (hj : j < k) (hd : ∀ i j, i < k → j < k → i ≠ j → xs i ≠ xs j) : lag xs ys k (xs j) = ys j := by
  unfold lag; rw [lagS_at F xs ys (Nat.le_refl k) hj hd, if_pos hj]
theorem lag_poly (xs ys : Nat → α) (k : Nat) : PolyF k (lag xs ys k) := lagS_poly F xs ys (Nat.le_refl k)
theorem lag_newt (xs ys : Nat → α) (n : Nat) (hd : ∀ i j, i < n + 1 → j < n + 1 → i ≠ j → xs i ≠ xs j) (x : α) : newt xs ys 0 n x = lag xs ys (n + 1) x := by
  refine PolyF.agree F (Lead.poly F (newt_lead F xs ys 0 n)) (lag_poly F xs ys (n + 1)) (rs := places xs 0 (n + 1)) (by rw [places_len]; omega) (places_nodup fun i j h1 h2 => hd i j (by omega) (by omega) (by omega)) (fun r hr => ?_) x
  obtain ⟨j, hj, rfl⟩ := mem_places.1 hr
  rw [newt_at F xs ys n 0 (fun i j h1 h2 => hd i j (by omega) (by omega) (by omega)) j (by omega), Nat.zero_add, lag_at F xs ys hj hd]
omit F in
/-- HORNER's road through Newton's form, from place j on, c places. -/
def horN (xs d : Nat → α) (x : α) : Nat → Nat → α
  | _, 0 => 0
  | j, c + 1 => horN xs d x (j + 1) c * (x + -xs j) + d j
theorem newt_hor (xs ys : Nat → α) (x : α) (n : Nat) : newt xs ys 0 n x = horN xs (fun j => dd xs ys j j) x 0 (n + 1) := by
  have key : ∀ (c j : Nat), newt xs ys 0 j x + prodR (places xs 0 (j + 1)) x * horN xs (fun j => dd xs ys j j) x (j + 1) c = newt xs ys 0 (j + c) x := by
    intro c
    induction c with
    | zero => intro j; simp only [horN, Nat.add_zero]; rw [F.mul_zero, F.add_zero]
    | succ c ih =>
      intro j
      rw [show j + (c + 1) = j + 1 + c by omega, ← ih (j + 1)]
      simp only [horN, newt]
      rw [places_succ xs 0 (j + 1), prodR_snoc F, Nat.zero_add, Nat.zero_add, F.mul_add, F.add_assoc]
      congr 1
      rw [F.add_comm, F.mul_comm (dd xs ys (j + 1) (j + 1))]
      congr 1
      rw [F.mul_assoc, F.mul_comm (x + -xs (j + 1))]
  have h0 := key n 0
  rw [show 0 + n = n by omega] at h0
  rw [← h0]
  show _ = horN xs (fun j => dd xs ys j j) x 1 n * (x + -xs 0) + dd xs ys 0 0
  simp only [newt, places]
  have e : prodR (List.map (fun j => xs (0 + j)) (List.range (0 + 1))) x = x + -xs 0 := by
    simp only [Nat.zero_add, List.range_one, List.map_cons, List.map_nil, prodR]
    rw [F.mul_one]
  rw [e, F.add_comm, F.mul_comm]
/-- A polynomial of k numbers that takes given values is LAGRANGE's. -/
theorem lag_uniq {k : Nat} {f : α → α} (hf : PolyF k f) (xs ys : Nat → α) (hd : ∀ i j, i < k → j < k → i ≠ j → xs i ≠ xs j) (h : ∀ j, j < k → f (xs j) = ys j) (x : α) : lag xs ys k x = f x := by
  refine PolyF.agree F (lag_poly F xs ys k) hf (rs := places xs 0 k) (by rw [places_len]; omega) (places_nodup fun i j h1 h2 => hd i j (by omega) (by omega) (by omega)) (fun r hr => ?_) x
  obtain ⟨j, hj, rfl⟩ := mem_places.1 hr
  rw [Nat.zero_add, lag_at F xs ys hj hd, h j hj]
end

/-! ### The field of 256 elements -/
structure GF where
  val : Nat
  lt : val < 256
theorem GF.ext {a b : GF} (h : a.val = b.val) : a = b := by
  cases a; cases b; simp only at h; subst h; rfl
instance : Add GF := ⟨fun a b => ⟨a.val ^^^ b.val, xor_lt256 a.lt b.lt⟩⟩
instance : Mul GF := ⟨fun a b => ⟨gmul a.val b.val, gmul_lt a.lt⟩⟩
instance : Neg GF := ⟨fun a => a⟩
instance : Zero GF := ⟨⟨0, by omega⟩⟩
instance : One GF := ⟨⟨1, by omega⟩⟩
instance : Inv GF := ⟨fun a => ⟨ginv a.val, ginv_lt a.lt⟩⟩
theorem GF.add_val (a b : GF) : (a + b).val = a.val ^^^ b.val := rfl
theorem GF.sub_val (a b : GF) : (a + -b).val = a.val ^^^ b.val := rfl
theorem GF.mul_val (a b : GF) : (a * b).val = gmul a.val b.val := rfl
theorem GF.inv_val (a : GF) : (a⁻¹).val = ginv a.val := rfl
theorem GF.zero_val : (0 : GF).val = 0 := rfl
theorem GF.one_val : (1 : GF).val = 1 := rfl
theorem gfld : Fld GF where
  add_assoc a b c := GF.ext (Nat.xor_assoc _ _ _)
  add_comm a b := GF.ext (Nat.xor_comm _ _)
  add_zero a := GF.ext (Nat.xor_zero _)
  add_neg a := GF.ext (Nat.xor_self _)
  mul_assoc a b c := GF.ext (gmul_assoc a.lt b.lt c.lt)
  mul_comm a b := GF.ext (gmul_comm a.lt b.lt)
  mul_one a := GF.ext (gmul_one a.lt)
  mul_add a b c := GF.ext (gmul_right _ _ _)
  mul_inv a h := GF.ext (gmul_ginv a.lt fun h0 => h (GF.ext h0))
  one_ne := fun h => by have := congrArg GF.val h; simp [GF.one_val, GF.zero_val] at this
def gf (n : Nat) : GF := ⟨n % 256, Nat.mod_lt _ (by omega)⟩
theorem gf_val {n : Nat} (h : n < 256) : (gf n).val = n := Nat.mod_eq_of_lt h
theorem gf_inj {a b : Nat} (ha : a < 256) (hb : b < 256) (h : gf a = gf b) : a = b := by
  have := congrArg GF.val h; rwa [gf_val ha, gf_val hb] at this
end Go.Proofs.Ytmeffbooabionaa
namespace Go.Proofs.Ytmeffbooabionaa

/-- Points: places below 256, no two the same. -/
def PtsG (L : List (Nat × Nat)) : Prop := (∀ a ∈ L, a.1 < 256 ∧ a.2 < 256) ∧ (L.map Prod.fst).Nodup
def ptX (L : List (Nat × Nat)) (j : Nat) : GF := gf (L.getD j (0, 0)).1
def ptY (L : List (Nat × Nat)) (j : Nat) : GF := gf (L.getD j (0, 0)).2
/-- The row's value through some points. -/
def rowV (L : List (Nat × Nat)) (x : GF) : GF := lag (ptX L) (ptY L) L.length x
theorem ptX_ne {L : List (Nat × Nat)} (h : PtsG L) : ∀ i j, i < L.length → j < L.length → i ≠ j → ptX L i ≠ ptX L j := by
  intro i j hi hj hij he
  unfold ptX at he
  rw [List.getD_eq_getElem?_getD, List.getD_eq_getElem?_getD, List.getElem?_eq_getElem hi, List.getElem?_eq_getElem hj] at he
  simp only [Option.getD_some] at he
  have h1 := gf_inj (h.1 _ (List.getElem_mem hi)).1 (h.1 _ (List.getElem_mem hj)).1 he
  have h2 := h.2
  rw [List.nodup_iff_pairwise_ne, List.pairwise_map, List.pairwise_iff_getElem] at h2
  rcases Nat.lt_or_ge i j with h3 | h3
  · exact h2 i j hi hj h3 h1
  · exact h2 j i hj hi (by omega) h1.symm
theorem rowV_poly (L : List (Nat × Nat)) : PolyF L.length (rowV L) := lag_poly gfld _ _ _
theorem rowV_at {L : List (Nat × Nat)} (h : PtsG L) {a : Nat × Nat} (ha : a ∈ L) : rowV L (gf a.1) = gf a.2 := by
  obtain ⟨j, hj, he⟩ := List.mem_iff_getElem.1 ha
  have h1 := lag_at gfld (ptX L) (ptY L) hj (ptX_ne h)
  unfold ptX ptY at h1
  rw [List.getD_eq_getElem?_getD, List.getElem?_eq_getElem hj] at h1
  simp only [Option.getD_some] at h1
  rw [he] at h1
  exact h1
/-- A polynomial of so many numbers that fits some points is their row. -/
theorem rowV_uniq {L : List (Nat × Nat)} (h : PtsG L) {f : GF → GF} (hf : PolyF L.length f) (hL : ∀ a ∈ L, f (gf a.1) = gf a.2) (x : GF) : rowV L x = f x := by
  refine lag_uniq gfld hf (ptX L) (ptY L) (ptX_ne h) (fun j hj => ?_) x
  unfold ptX ptY
  rw [List.getD_eq_getElem?_getD, List.getElem?_eq_getElem hj]
  simp only [Option.getD_some]
  exact hL _ (List.getElem_mem hj)
def fits (L P : List (Nat × Nat)) : Prop := ∀ a ∈ P, rowV L (gf a.1) = gf a.2
theorem fits_swap {L M P : List (Nat × Nat)} (hM : PtsG M) (hl : M.length = L.length) (hMP : ∀ a ∈ M, a ∈ P) (h : fits L P) : (∀ x, rowV M x = rowV L x) ∧ fits M P := by
  have h1 : ∀ x, rowV M x = rowV L x := rowV_uniq hM (by rw [hl]; exact rowV_poly L) fun a ha => h a (hMP a ha)
  exact ⟨h1, fun a ha => by rw [h1]; exact h a ha⟩
end Go.Proofs.Ytmeffbooabionaa
