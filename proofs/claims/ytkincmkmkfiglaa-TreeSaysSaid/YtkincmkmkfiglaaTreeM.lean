/- Hash trees (MERKLE) in plain lists: level by level, and from the top. -/
namespace Go.Proofs.Ytkincmkmkfiglaa
set_option linter.unusedSectionVars false

section
variable (node : Nat → Nat → Nat)
def upL : List Nat → List Nat
  | [] => []
  | [a] => [a]
  | a :: b :: l => node a b :: upL l
theorem upL_length : ∀ (l : List Nat), (upL node l).length = (l.length + 1) / 2
  | [] => rfl
  | [_] => by simp [upL]
  | _ :: _ :: l => by simp only [upL, List.length_cons]; rw [upL_length l]; omega
theorem upL_append : ∀ (l m : List Nat), l.length % 2 = 0 → upL node (l ++ m) = upL node l ++ upL node m
  | [], _, _ => rfl
  | [_], _, h => by simp at h
  | a :: b :: l, m, h => by
    simp only [List.cons_append, upL]
    rw [upL_append l m (by simp at h; omega)]
theorem upL_get : ∀ (l : List Nat) (i : Nat), 2 * i + 1 < l.length → (upL node l)[i]? = some (node (l.getD (2 * i) 0) (l.getD (2 * i + 1) 0))
  | [], i, h => by simp at h
  | [_], i, h => by simp at h
  | a :: b :: l, 0, _ => rfl
  | a :: b :: l, i + 1, h => by
    simp only [upL, List.getElem?_cons_succ]
    rw [upL_get l i (by simp at h; omega)]
    congr 2
theorem upL_last : ∀ (l : List Nat) (i : Nat), 2 * i + 1 = l.length → (upL node l)[i]? = l[2 * i]?
  | [], i, h => by simp at h
  | [_], 0, _ => rfl
  | [_], i + 1, h => by simp at h
  | a :: b :: l, 0, h => by simp at h
  | a :: b :: l, i + 1, h => by
    simp only [upL, List.getElem?_cons_succ]
    rw [upL_last l i (by simp at h; omega)]
    rfl
def levL : Nat → List Nat → List Nat
  | 0, l => l
  | j + 1, l => levL j (upL node l)
theorem levL_add (i j : Nat) (l : List Nat) : levL node (i + j) l = levL node j (levL node i l) := by
  induction i generalizing l with
  | zero => rw [Nat.zero_add]; rfl
  | succ i ih => rw [Nat.succ_add]; exact ih _
theorem levL_single (j a : Nat) : levL node j [a] = [a] := by
  induction j with
  | zero => rfl
  | succ j ih => exact ih
theorem levL_append (j : Nat) : ∀ (l m : List Nat), l.length = 2 ^ j → levL node j (l ++ m) = levL node j l ++ levL node j m := by
  induction j with
  | zero => intro l m _; rfl
  | succ j ih =>
    intro l m h
    simp only [levL]
    rw [upL_append node l m (by rw [h, Nat.pow_succ]; omega)]
    exact ih _ _ (by rw [upL_length, h, Nat.pow_succ]; omega)
theorem levL_length (j : Nat) : ∀ (l : List Nat), 1 ≤ l.length → l.length ≤ 2 ^ j → (levL node j l).length = 1 := by
  induction j with
  | zero => intro l h1 h2; simp at h2; show l.length = 1; omega
  | succ j ih =>
    intro l h1 h2
    rw [Nat.pow_succ] at h2
    exact ih _ (by rw [upL_length]; omega) (by rw [upL_length]; omega)

/-- The greatest power of two below n. -/
def splitN (n : Nat) : Nat := 2 ^ (n - 1).log2
theorem splitN_eq {n j : Nat} (h1 : 2 ^ j < n) (h2 : n ≤ 2 ^ (j + 1)) : splitN n = 2 ^ j := by
  unfold splitN
  congr 1
  rw [Nat.log2_eq_iff (by have := Nat.pow_pos (n := j) (show 0 < 2 by omega); omega)]
  omega
/-- From the top. -/
def topF : Nat → List Nat → Nat
  | 0, _ => 0
  | f + 1, l => if l.length ≤ 1 then l.getD 0 0 else node (topF f (l.take (splitN l.length))) (topF f (l.drop (splitN l.length)))
theorem find_pow {n : Nat} (h : 2 ≤ n) : ∃ j, 2 ^ j < n ∧ n ≤ 2 ^ (j + 1) := by
  refine ⟨(n - 1).log2, ?_, ?_⟩
  · have := Nat.log2_self_le (n := n - 1) (by omega); omega
  · have := Nat.lt_log2_self (n := n - 1); omega
theorem lev_top : ∀ (f : Nat) (l : List Nat) (j : Nat), 1 ≤ l.length → l.length ≤ f → l.length ≤ 2 ^ j → levL node j l = [topF node f l] := by
  intro f
  induction f with
  | zero => intro l j h1 h2; omega
  | succ f ih =>
    intro l j h1 h2 h3
    by_cases h4 : l.length ≤ 1
    · obtain ⟨a, rfl⟩ : ∃ a, l = [a] := by
        cases l with
        | nil => simp at h1
        | cons a l => cases l with
                      | nil => exact ⟨a, rfl⟩
                      | cons b l => simp at h4
      rw [levL_single]; rfl
    · obtain ⟨i, hi1, hi2⟩ := find_pow (show 2 ≤ l.length by omega)
      have hij : i + 1 ≤ j := by
        rcases Nat.lt_or_ge i j with h5 | h5
        · exact h5
        · have := Nat.pow_le_pow_right (show 0 < 2 by omega) h5; omega
      obtain ⟨d, rfl⟩ := Nat.exists_eq_add_of_le hij
      have hp : 0 < 2 ^ i := Nat.pow_pos (by omega)
      have hs := splitN_eq hi1 hi2
      rw [levL_add, levL_add]
      have hl : l = l.take (2 ^ i) ++ l.drop (2 ^ i) := (List.take_append_drop _ _).symm
      have e1 : levL node i l = [topF node f (l.take (2 ^ i)), topF node f (l.drop (2 ^ i))] := by
        conv => lhs; rw [hl]
        rw [levL_append node i _ _ (by rw [List.length_take]; omega)]
        rw [ih (l.take (2 ^ i)) i (by rw [List.length_take]; omega) (by rw [List.length_take]; omega) (by rw [List.length_take]; omega)]
        rw [ih (l.drop (2 ^ i)) i (by rw [List.length_drop]; omega) (by rw [List.length_drop]; omega) (by rw [List.length_drop, Nat.pow_succ] at *; omega)]
        rfl
      rw [e1]
      show levL node d (levL node 1 [_, _]) = _
      show levL node d [node _ _] = _
      rw [levL_single]
      simp only [topF]
      rw [if_neg h4, hs]

theorem topF_fuel {f g : Nat} {l : List Nat} (h1 : 1 ≤ l.length) (hf : l.length ≤ f) (hg : l.length ≤ g) : topF node f l = topF node g l := by
  have hj : l.length ≤ 2 ^ l.length := Nat.le_of_lt Nat.lt_two_pow_self
  have a := lev_top node f l l.length h1 hf hj
  have b := lev_top node g l l.length h1 hg hj
  rw [a] at b
  simpa using b

/-! ### The way of a leaf -/
def wayJ : Nat → List Nat → Nat → List Nat
  | 0, _, _ => []
  | j + 1, l, k => (if k ^^^ 1 < l.length then [l.getD (k ^^^ 1) 0] else []) ++ wayJ j (upL node l) (k / 2)
def wayF : Nat → List Nat → Nat → List Nat
  | 0, _, _ => []
  | f + 1, l, k => if l.length ≤ 1 then [] else
      if k < splitN l.length then wayF f (l.take (splitN l.length)) k ++ [topF node f (l.drop (splitN l.length))]
      else wayF f (l.drop (splitN l.length)) (k - splitN l.length) ++ [topF node f (l.take (splitN l.length))]
omit node in
theorem xor_one (k : Nat) : k ^^^ 1 = if k % 2 = 0 then k + 1 else k - 1 := by
  have h1 : (k ^^^ 1) / 2 = k / 2 := by rw [Nat.xor_div_two]; simp
  have h2 : (k ^^^ 1) % 2 = (k % 2 ^^^ 1 % 2) := Nat.xor_mod_two_pow (n := 1)
  rcases Nat.mod_two_eq_zero_or_one k with h | h
  · rw [if_pos h]; rw [h] at h2; have h3 : (0 ^^^ 1 % 2) = 1 := rfl; omega
  · rw [if_neg (by omega)]; rw [h] at h2; have h3 : (1 ^^^ 1 % 2) = 0 := rfl; omega
theorem wayJ_left (i : Nat) : ∀ (l m : List Nat) (k : Nat), l.length = 2 ^ i → k < 2 ^ i → wayJ node i (l ++ m) k = wayJ node i l k := by
  induction i with
  | zero => intro l m k _ _; rfl
  | succ i ih =>
    intro l m k hl hk
    have hp : 2 ^ (i + 1) = 2 ^ i * 2 := Nat.pow_succ ..
    have hx : k ^^^ 1 < 2 ^ (i + 1) := by rw [xor_one]; split <;> omega
    simp only [wayJ]
    rw [List.length_append, if_pos (by omega), if_pos (by omega), upL_append node l m (by omega), ih _ _ _ (by rw [upL_length]; omega) (by omega)]
    congr 2
    rw [List.getD_eq_getElem?_getD, List.getD_eq_getElem?_getD, List.getElem?_append_left (by omega)]
theorem wayJ_right (i : Nat) : ∀ (l m : List Nat) (k : Nat), l.length = 2 ^ i → k < m.length → m.length ≤ 2 ^ i → wayJ node i (l ++ m) (2 ^ i + k) = wayJ node i m k := by
  induction i with
  | zero => intro l m k _ _ _; rfl
  | succ i ih =>
    intro l m k hl hk hm
    have hp : 2 ^ (i + 1) = 2 ^ i * 2 := Nat.pow_succ ..
    have hpos : 0 < 2 ^ i := Nat.pow_pos (by omega)
    have hx : (2 ^ (i + 1) + k) ^^^ 1 = 2 ^ (i + 1) + (k ^^^ 1) := by rw [xor_one, xor_one]; split <;> split <;> omega
    have hd : (2 ^ (i + 1) + k) / 2 = 2 ^ i + k / 2 := by omega
    simp only [wayJ]
    rw [hx, hd, List.length_append, upL_append node l m (by omega), ih _ _ _ (by rw [upL_length]; omega) (by rw [upL_length]; omega) (by rw [upL_length]; omega)]
    congr 1
    by_cases h : k ^^^ 1 < m.length
    · rw [if_pos h, if_pos (by omega)]
      congr 1
      rw [List.getD_eq_getElem?_getD, List.getD_eq_getElem?_getD, List.getElem?_append_right (by omega)]
      congr 2; omega
    · rw [if_neg h, if_neg (by omega)]
theorem wayJ_add (i j : Nat) (l : List Nat) (k : Nat) : wayJ node (i + j) l k = wayJ node i l k ++ wayJ node j (levL node i l) (k / 2 ^ i) := by
  induction i generalizing l k with
  | zero => rw [Nat.zero_add]; simp [wayJ, levL]
  | succ i ih =>
    rw [Nat.succ_add]
    simp only [wayJ, levL]
    rw [ih, List.append_assoc, Nat.div_div_eq_div_mul, Nat.pow_succ, Nat.mul_comm 2]
theorem wayJ_single (j a : Nat) : wayJ node j [a] 0 = [] := by
  induction j with
  | zero => rfl
  | succ j ih => simp only [wayJ, upL]; rw [if_neg (by simp)]; simpa using ih
theorem way_eq : ∀ (f : Nat) (l : List Nat) (k j : Nat), k < l.length → l.length ≤ f → l.length ≤ 2 ^ j → wayJ node j l k = wayF node f l k := by
  intro f
  induction f with
  | zero => intro l k j h1 h2; omega
  | succ f ih =>
    intro l k j h1 h2 h3
    by_cases h4 : l.length ≤ 1
    · obtain ⟨a, rfl⟩ : ∃ a, l = [a] := by
        cases l with
        | nil => simp at h1
        | cons a l => cases l with
                      | nil => exact ⟨a, rfl⟩
                      | cons b l => simp at h4
      obtain rfl : k = 0 := by simp at h1; exact h1
      rw [wayJ_single]; rfl
    · obtain ⟨i, hi1, hi2⟩ := find_pow (show 2 ≤ l.length by omega)
      have hij : i + 1 ≤ j := by
        rcases Nat.lt_or_ge i j with h5 | h5
        · exact h5
        · have := Nat.pow_le_pow_right (show 0 < 2 by omega) h5; omega
      obtain ⟨d, rfl⟩ := Nat.exists_eq_add_of_le hij
      have hp : 0 < 2 ^ i := Nat.pow_pos (by omega)
      have hps : 2 ^ (i + 1) = 2 ^ i * 2 := Nat.pow_succ ..
      have hs := splitN_eq hi1 hi2
      have hlt : (l.take (2 ^ i)).length = 2 ^ i := by rw [List.length_take]; omega
      have hld : (l.drop (2 ^ i)).length = l.length - 2 ^ i := List.length_drop
      have hl : l = l.take (2 ^ i) ++ l.drop (2 ^ i) := (List.take_append_drop _ _).symm
      have e1 : levL node i l = [topF node f (l.take (2 ^ i)), topF node f (l.drop (2 ^ i))] := by
        conv => lhs; rw [hl]
        rw [levL_append node i _ _ hlt]
        rw [lev_top node f (l.take (2 ^ i)) i (by omega) (by omega) (by omega)]
        rw [lev_top node f (l.drop (2 ^ i)) i (by omega) (by omega) (by omega)]
        rfl
      rw [wayJ_add, wayJ_add, levL_add, e1]
      simp only [wayF]
      rw [if_neg h4, hs]
      have e2 : ∀ x y : Nat, levL node 1 [x, y] = [node x y] := fun x y => rfl
      rw [e2]
      by_cases hk : k < 2 ^ i
      · rw [if_pos hk]
        have e3 : k / 2 ^ i = 0 := Nat.div_eq_of_lt hk
        have e4 : k / 2 ^ (i + 1) = 0 := Nat.div_eq_of_lt (by omega)
        rw [e3, e4, wayJ_single, List.append_nil]
        have e5 : wayJ node i l k = wayF node f (l.take (2 ^ i)) k := by
          conv => lhs; rw [hl]
          rw [wayJ_left node i _ _ k hlt hk, ih _ k i (by omega) (by omega) (by omega)]
        rw [e5]
        rfl
      · rw [if_neg hk]
        have e3 : k / 2 ^ i = 1 := Nat.div_eq_of_lt_le (by omega) (by omega)
        have e4 : k / 2 ^ (i + 1) = 0 := Nat.div_eq_of_lt (by omega)
        rw [e3, e4, wayJ_single, List.append_nil]
        have e5 : wayJ node i l k = wayF node f (l.drop (2 ^ i)) (k - 2 ^ i) := by
          have e6 := wayJ_right node i (l.take (2 ^ i)) (l.drop (2 ^ i)) (k - 2 ^ i) hlt (by omega) (by omega)
          rw [← hl, show 2 ^ i + (k - 2 ^ i) = k by omega] at e6
          rw [e6, ih _ (k - 2 ^ i) i (by omega) (by omega) (by omega)]
        rw [e5]
        rfl

/-! ### What a leaf comes to -/
def chkJ : Nat → Nat → Nat → Nat → List Nat → Option (Nat × List Nat)
  | 0, _, _, x, p => some (x, p)
  | j + 1, n, k, x, p => if k ^^^ 1 < n then
        match p with
        | [] => none
        | q :: r => chkJ j ((n + 1) / 2) (k / 2) (if k % 2 = 0 then node x q else node q x) r
      else chkJ j ((n + 1) / 2) (k / 2) x p
def comesF : Nat → Nat → Nat → Nat → List Nat → Nat × Bool
  | 0, _, _, _, _ => (0, false)
  | f + 1, n, k, x, way => if n = 1 then (x, way.isEmpty) else if way = [] then (0, false) else
      if k < splitN n then (node (comesF f (splitN n) k x way.dropLast).1 (way.getLastD 0), (comesF f (splitN n) k x way.dropLast).2)
      else (node (way.getLastD 0) (comesF f (n - splitN n) (k - splitN n) x way.dropLast).1, (comesF f (n - splitN n) (k - splitN n) x way.dropLast).2)
omit node in
def fin1 (r : Option (Nat × List Nat)) : Option Nat := match r with | some (y, []) => some y | _ => none
omit node in
def fin2 (r : Nat × Bool) : Option Nat := if r.2 = true then some r.1 else none
theorem chkJ_app (j : Nat) : ∀ (n k x : Nat) (p r : List Nat) (y : Nat) (q : List Nat), chkJ node j n k x p = some (y, q) → chkJ node j n k x (p ++ r) = some (y, q ++ r) := by
  induction j with
  | zero => intro n k x p r y q h; simp only [chkJ, Option.some.injEq, Prod.mk.injEq] at h ⊢; obtain ⟨rfl, rfl⟩ := h; exact ⟨rfl, rfl⟩
  | succ j ih =>
    intro n k x p r y q h
    simp only [chkJ] at h ⊢
    split
    · rename_i h1
      rw [if_pos h1] at h
      cases p with
      | nil => simp at h
      | cons a p => exact ih _ _ _ _ _ _ _ h
    · rename_i h1
      rw [if_neg h1] at h
      exact ih _ _ _ _ _ _ _ h
theorem chkJ_part (j : Nat) : ∀ (n k x : Nat) (p : List Nat) (y : Nat) (q : List Nat), chkJ node j n k x p = some (y, q) → ∃ c, p = c ++ q ∧ chkJ node j n k x c = some (y, []) := by
  induction j with
  | zero => intro n k x p y q h; simp only [chkJ, Option.some.injEq, Prod.mk.injEq] at h; obtain ⟨rfl, rfl⟩ := h; exact ⟨[], rfl, rfl⟩
  | succ j ih =>
    intro n k x p y q h
    simp only [chkJ] at h
    split at h
    · rename_i h1
      cases p with
      | nil => simp at h
      | cons a p =>
        obtain ⟨c, rfl, hc⟩ := ih _ _ _ _ _ _ h
        exact ⟨a :: c, rfl, by simp only [chkJ]; rw [if_pos h1]; exact hc⟩
    · rename_i h1
      obtain ⟨c, rfl, hc⟩ := ih _ _ _ _ _ _ h
      exact ⟨c, rfl, by simp only [chkJ]; rw [if_neg h1]; exact hc⟩
omit node in
def cdiv : Nat → Nat → Nat
  | 0, n => n
  | i + 1, n => cdiv i ((n + 1) / 2)
theorem chkJ_add (i j : Nat) : ∀ (n k x : Nat) (p : List Nat), chkJ node (i + j) n k x p = (chkJ node i n k x p).bind fun r => chkJ node j (cdiv i n) (k / 2 ^ i) r.1 r.2 := by
  induction i with
  | zero => intro n k x p; simp [chkJ, cdiv]
  | succ i ih =>
    intro n k x p
    rw [Nat.succ_add]
    simp only [chkJ, cdiv]
    have e : k / 2 ^ (i + 1) = k / 2 / 2 ^ i := by rw [Nat.div_div_eq_div_mul, Nat.pow_succ, Nat.mul_comm 2]
    split
    · cases p with
      | nil => rfl
      | cons a p => simp only; rw [ih, e]
    · rw [ih, e]
theorem chkJ_left (i : Nat) : ∀ (n k x : Nat) (p : List Nat), 2 ^ i ≤ n → k < 2 ^ i → chkJ node i n k x p = chkJ node i (2 ^ i) k x p := by
  induction i with
  | zero => intro n k x p _ _; rfl
  | succ i ih =>
    intro n k x p hn hk
    have hp : 2 ^ (i + 1) = 2 ^ i * 2 := Nat.pow_succ ..
    have hx : k ^^^ 1 < 2 ^ (i + 1) := by rw [xor_one]; split <;> omega
    have e : (2 ^ (i + 1) + 1) / 2 = 2 ^ i := by omega
    simp only [chkJ]
    rw [if_pos (by omega), if_pos hx, e]
    cases p with
    | nil => rfl
    | cons a p => simp only; rw [ih _ _ _ _ (by omega) (by omega)]
theorem chkJ_right (i : Nat) : ∀ (m k x : Nat) (p : List Nat), k < m → m ≤ 2 ^ i → chkJ node i (2 ^ i + m) (2 ^ i + k) x p = chkJ node i m k x p := by
  induction i with
  | zero => intro m k x p _ _; rfl
  | succ i ih =>
    intro m k x p hk hm
    have hp : 2 ^ (i + 1) = 2 ^ i * 2 := Nat.pow_succ ..
    have hpos : 0 < 2 ^ i := Nat.pow_pos (by omega)
    have hx : (2 ^ (i + 1) + k) ^^^ 1 = 2 ^ (i + 1) + (k ^^^ 1) := by rw [xor_one, xor_one]; split <;> split <;> omega
    have hd : (2 ^ (i + 1) + k) / 2 = 2 ^ i + k / 2 := by omega
    have hm2 : (2 ^ (i + 1) + m + 1) / 2 = 2 ^ i + (m + 1) / 2 := by omega
    have hq : (2 ^ (i + 1) + k) % 2 = k % 2 := by omega
    simp only [chkJ]
    rw [hx, hd, hm2, hq]
    by_cases h : k ^^^ 1 < m
    · rw [if_pos h, if_pos (by omega)]
      cases p with
      | nil => rfl
      | cons a p => simp only; rw [ih _ _ _ _ (by omega) (by omega)]
    · rw [if_neg h, if_neg (by omega), ih _ _ _ _ (by omega) (by omega)]
theorem chkJ_single (j x : Nat) (p : List Nat) : chkJ node j 1 0 x p = some (x, p) := by
  induction j with
  | zero => rfl
  | succ j ih => simp only [chkJ]; rw [if_neg (by simp)]; simpa using ih
omit node in
theorem cdiv_two (i : Nat) : ∀ (n : Nat), 2 ^ i < n → n ≤ 2 ^ (i + 1) → cdiv i n = 2 := by
  induction i with
  | zero => intro n h1 h2; simp at h1 h2; show n = 2; omega
  | succ i ih =>
    intro n h1 h2
    rw [Nat.pow_succ] at h1 h2
    exact ih _ (by omega) (by omega)
/-- One more round at the top. -/
theorem fin1_top (r : Option (Nat × List Nat)) (way : List Nat) (d : Nat) (c : List Nat → Option (Nat × List Nat)) (g : Nat → Nat → Nat) (hr : r = c way)
    (happ : ∀ p r y q, c p = some (y, q) → c (p ++ r) = some (y, q ++ r)) (hpart : ∀ p y q, c p = some (y, q) → ∃ a, p = a ++ q ∧ c a = some (y, [])) (hne : way ≠ []) :
    fin1 (r.bind fun s => match s.2 with | [] => none | q :: t => some (g s.1 q, t)) = (fin1 (c way.dropLast)).map fun y => g y (way.getLastD d) := by
  subst hr
  obtain ⟨p, q, rfl⟩ : ∃ p q, way = p ++ [q] := ⟨way.dropLast, way.getLast hne, (List.dropLast_concat_getLast hne).symm⟩
  have e1 : (p ++ [q]).dropLast = p := by simp
  have e2 : (p ++ [q]).getLastD d = q := by simp [List.getLastD_eq_getLast?]
  rw [e1, e2]
  cases hp : c p with
  | some s =>
    obtain ⟨y, t⟩ := s
    rw [happ p [q] y t hp]
    cases t with
    | nil => simp [fin1]
    | cons a t => cases t <;> simp [fin1]
  | none =>
    cases hw : c (p ++ [q]) with
    | none => simp [fin1]
    | some s =>
      obtain ⟨y, t⟩ := s
      obtain ⟨a, ha, hc⟩ := hpart _ _ _ hw
      cases t with
      | nil => simp [fin1]
      | cons b t =>
        cases t with
        | nil =>
          exfalso
          have h2 := List.append_inj' ha rfl
          rw [← h2.1, hp] at hc
          cases hc
        | cons c2 t => simp [fin1]
theorem comes_eq : ∀ (f n k j x : Nat) (way : List Nat), k < n → n ≤ f → n ≤ 2 ^ j → fin2 (comesF node f n k x way) = fin1 (chkJ node j n k x way) := by
  intro f
  induction f with
  | zero => intro n k j x way h1 h2; omega
  | succ f ih =>
    intro n k j x way h1 h2 h3
    by_cases h4 : n = 1
    · subst h4
      obtain rfl : k = 0 := by omega
      rw [chkJ_single]
      simp only [comesF, if_true]
      cases way <;> rfl
    · obtain ⟨i, hi1, hi2⟩ := find_pow (show 2 ≤ n by omega)
      have hij : i + 1 ≤ j := by
        rcases Nat.lt_or_ge i j with h5 | h5
        · exact h5
        · have := Nat.pow_le_pow_right (show 0 < 2 by omega) h5; omega
      obtain ⟨d, rfl⟩ := Nat.exists_eq_add_of_le hij
      have hp : 0 < 2 ^ i := Nat.pow_pos (by omega)
      have hps : 2 ^ (i + 1) = 2 ^ i * 2 := Nat.pow_succ ..
      have hs := splitN_eq hi1 hi2
      have hc2 := cdiv_two i n hi1 hi2
      simp only [comesF]
      rw [if_neg h4, hs, chkJ_add, chkJ_add]
      have hc1 : cdiv (i + 1) n = 1 := by
        have : ∀ (i n : Nat), cdiv (i + 1) n = (cdiv i n + 1) / 2 := by
          intro i
          induction i with
          | zero => intro n; rfl
          | succ i ih => intro n; exact ih _
        rw [this, hc2]
      rw [hc1, hc2]
      by_cases hk : k < 2 ^ i
      · have e3 : k / 2 ^ i = 0 := Nat.div_eq_of_lt hk
        have e4 : k / 2 ^ (i + 1) = 0 := Nat.div_eq_of_lt (by omega)
        have e5 : ∀ (y : Nat) (p : List Nat), chkJ node 1 2 0 y p = match p with | [] => none | q :: t => some (node y q, t) := by
          intro y p
          simp only [chkJ]
          rw [if_pos (by simp)]
          cases p <;> rfl
        rw [e3, e4, chkJ_left node i n k x way (by omega) hk]
        have e6 : ((chkJ node i (2 ^ i) k x way).bind fun r => chkJ node 1 2 0 r.1 r.2).bind (fun r => chkJ node d 1 0 r.1 r.2) = (chkJ node i (2 ^ i) k x way).bind fun s => match s.2 with | [] => none | q :: t => some (node s.1 q, t) := by
          rw [Option.bind_assoc]
          congr 1
          funext r
          rw [e5]
          cases r.2 with
          | nil => rfl
          | cons q t => simp only [Option.bind_some]; exact chkJ_single node d _ _
        rw [e6]
        by_cases hw : way = []
        · subst hw
          rw [if_pos rfl]
          cases hcc : chkJ node i (2 ^ i) k x [] with
          | none => rfl
          | some s =>
            obtain ⟨y, t⟩ := s
            obtain ⟨a, ha, _⟩ := chkJ_part node i _ _ _ _ _ _ hcc
            have : t = [] := by cases t with
                                | nil => rfl
                                | cons b t => simp at ha
            subst this; rfl
        · rw [if_neg hw, if_pos hk, fin1_top _ way 0 (fun p => chkJ node i (2 ^ i) k x p) node rfl (fun p r y q h => chkJ_app node i _ _ _ _ r _ _ h) (fun p y q h => chkJ_part node i _ _ _ _ _ _ h) hw]
          rw [← ih (2 ^ i) k i x way.dropLast hk (by omega) (Nat.le_refl _)]
          unfold fin2
          simp only
          split <;> rfl
      · have e3 : k / 2 ^ i = 1 := Nat.div_eq_of_lt_le (by omega) (by omega)
        have e4 : k / 2 ^ (i + 1) = 0 := Nat.div_eq_of_lt (by omega)
        have e5 : ∀ (y : Nat) (p : List Nat), chkJ node 1 2 1 y p = match p with | [] => none | q :: t => some (node q y, t) := by
          intro y p
          simp only [chkJ]
          rw [if_pos (by simp)]
          cases p <;> rfl
        have e7 : chkJ node i n k x way = chkJ node i (n - 2 ^ i) (k - 2 ^ i) x way := by
          have := chkJ_right node i (n - 2 ^ i) (k - 2 ^ i) x way (by omega) (by omega)
          rwa [show 2 ^ i + (n - 2 ^ i) = n by omega, show 2 ^ i + (k - 2 ^ i) = k by omega] at this
        rw [e3, e4, e7]
        have e6 : ((chkJ node i (n - 2 ^ i) (k - 2 ^ i) x way).bind fun r => chkJ node 1 2 1 r.1 r.2).bind (fun r => chkJ node d 1 0 r.1 r.2) = (chkJ node i (n - 2 ^ i) (k - 2 ^ i) x way).bind fun s => match s.2 with | [] => none | q :: t => some ((fun a b => node b a) s.1 q, t) := by
          rw [Option.bind_assoc]
          congr 1
          funext r
          rw [e5]
          cases r.2 with
          | nil => rfl
          | cons q t => simp only [Option.bind_some]; exact chkJ_single node d _ _
        rw [e6]
        by_cases hw : way = []
        · subst hw
          rw [if_pos rfl]
          cases hcc : chkJ node i (n - 2 ^ i) (k - 2 ^ i) x [] with
          | none => rfl
          | some s =>
            obtain ⟨y, t⟩ := s
            obtain ⟨a, ha, _⟩ := chkJ_part node i _ _ _ _ _ _ hcc
            have : t = [] := by cases t with
                                | nil => rfl
                                | cons b t => simp at ha
            subst this; rfl
        · rw [if_neg hw, if_neg hk, fin1_top _ way 0 (fun p => chkJ node i (n - 2 ^ i) (k - 2 ^ i) x p) (fun a b => node b a) rfl (fun p r y q h => chkJ_app node i _ _ _ _ r _ _ h) (fun p y q h => chkJ_part node i _ _ _ _ _ _ h) hw]
          rw [← ih (n - 2 ^ i) (k - 2 ^ i) i x way.dropLast (by omega) (by omega) (by omega)]
          unfold fin2
          simp only
          split <;> rfl
end
end Go.Proofs.Ytkincmkmkfiglaa
