/- The divisors made of the factors, in plain arithmetic. -/
import Derived.Test.YtmeffbooabionaaIrM23
set_option linter.unusedVariables false
set_option linter.unusedSimpArgs false
namespace Go.Proofs.Ytmeffbooabionaa

/-- d times p, times p again, n times. -/
def mulsP (p d n : Nat) : List Nat := (List.range n).map fun j => d * p ^ (j + 1)
def stepD (L : List Nat) (a : Nat × Nat) : List Nat := L ++ L.flatMap fun d => mulsP a.1 d a.2
def outD (l : List (Nat × Nat)) : List Nat := l.foldl stepD [1]
structure DivList (m : Nat) (L : List Nat) : Prop where
  nod : L.Pairwise (· ≠ ·)
  mem : ∀ x, x ∈ L ↔ x ∣ m
  len : L.length ≤ m
theorem dvd_mul_pow {p x m : Nat} (hp : IsPr p) : ∀ n, x ∣ m * p ^ n → ∃ d j, d ∣ m ∧ j ≤ n ∧ x = d * p ^ j := by
  intro n
  induction n generalizing x with
  | zero => intro h; exact ⟨x, 0, by simpa using h, Nat.le_refl _, by simp⟩
  | succ n ih =>
    intro h
    by_cases hd : p ∣ x
    · obtain ⟨y, rfl⟩ := hd
      rw [Nat.pow_succ, ← Nat.mul_assoc, Nat.mul_comm _ p] at h
      obtain ⟨d, j, h1, h2, rfl⟩ := ih (Nat.dvd_of_mul_dvd_mul_left (by have := hp.1; omega) h)
      exact ⟨d, j + 1, h1, by omega, by rw [Nat.pow_succ, Nat.mul_comm p, Nat.mul_assoc]⟩
    · have hx := coprime_pow_dvd (j := n + 1) hp hd (by rwa [Nat.mul_comm] at h)
      exact ⟨x, 0, hx, by omega, by simp⟩
theorem mem_mulsP {p d n x : Nat} : x ∈ mulsP p d n ↔ ∃ j, j < n ∧ x = d * p ^ (j + 1) := by
  unfold mulsP
  simp only [List.mem_map, List.mem_range]
  exact ⟨fun ⟨j, h1, h2⟩ => ⟨j, h1, h2.symm⟩, fun ⟨j, h1, h2⟩ => ⟨j, h1, h2.symm⟩⟩
theorem mulsP_len (p d n : Nat) : (mulsP p d n).length = n := by simp [mulsP]
theorem mulsP_succ (p d n : Nat) : mulsP p d (n + 1) = mulsP p d n ++ [d * p ^ (n + 1)] := by simp [mulsP, List.range_succ]
theorem flat_len (p n : Nat) : ∀ L : List Nat, (L.flatMap fun d => mulsP p d n).length = L.length * n
  | [] => by simp
  | d :: L => by rw [List.flatMap_cons, List.length_append, mulsP_len, flat_len p n L, List.length_cons, Nat.succ_mul, Nat.add_comm]
theorem stepD_len (L : List Nat) (p n : Nat) : (stepD L (p, n)).length = L.length * (n + 1) := by
  unfold stepD
  rw [List.length_append, flat_len, Nat.mul_succ, Nat.add_comm]
theorem succ_le_pow {p : Nat} (hp : 2 ≤ p) : ∀ n, n + 1 ≤ p ^ n
  | 0 => by simp
  | n + 1 => by
    have h := succ_le_pow hp n
    rw [Nat.pow_succ]
    have := Nat.mul_le_mul h hp
    omega
theorem not_dvd_of {p d m : Nat} (hd : d ∣ m) (h : ¬ p ∣ m) : ¬ p ∣ d := fun h2 => h (Nat.dvd_trans h2 hd)
theorem DivList.step {m p n : Nat} {L : List Nat} (h : DivList m L) (_hm : 1 ≤ m) (hp : IsPr p) (hnd : ¬ p ∣ m) : DivList (m * p ^ n) (stepD L (p, n)) := by
  have p0 : 0 < p := by have := hp.1; omega
  refine ⟨?_, fun x => ?_, ?_⟩
  · unfold stepD
    rw [List.pairwise_append]
    refine ⟨h.nod, ?_, ?_⟩
    · rw [List.pairwise_flatMap]
      refine ⟨fun d hd => ?_, ?_⟩
      · unfold mulsP
        rw [List.pairwise_map]
        refine List.Pairwise.imp ?_ (List.pairwise_lt_range (n := n))
        intro i j hij e
        have hd2 := not_dvd_of ((h.mem d).1 hd) hnd
        have := (pow_cancel p0 hd2 hd2 (show p ^ (i + 1) * d = p ^ (j + 1) * d by rw [Nat.mul_comm, e, Nat.mul_comm])).1
        omega
      · refine List.Pairwise.imp_of_mem ?_ h.nod
        intro a b ha hb hab x hx y hy e
        obtain ⟨i, _, rfl⟩ := mem_mulsP.1 hx
        obtain ⟨j, _, rfl⟩ := mem_mulsP.1 hy
        exact hab (pow_cancel p0 (not_dvd_of ((h.mem a).1 ha) hnd) (not_dvd_of ((h.mem b).1 hb) hnd) (show p ^ (i + 1) * a = p ^ (j + 1) * b by rw [Nat.mul_comm, e, Nat.mul_comm])).2
    · intro a ha b hb e
      obtain ⟨d, hd, hx⟩ := List.mem_flatMap.1 hb
      obtain ⟨j, _, rfl⟩ := mem_mulsP.1 hx
      have := (pow_cancel p0 (not_dvd_of ((h.mem a).1 ha) hnd) (not_dvd_of ((h.mem d).1 hd) hnd) (show p ^ 0 * a = p ^ (j + 1) * d by rw [Nat.pow_zero, Nat.one_mul, e, Nat.mul_comm])).1
      omega
  · unfold stepD
    rw [List.mem_append, List.mem_flatMap]
    constructor
    · rintro (h1 | ⟨d, h1, h2⟩)
      · exact Nat.dvd_trans ((h.mem x).1 h1) (Nat.dvd_mul_right _ _)
      · obtain ⟨j, h3, rfl⟩ := mem_mulsP.1 h2
        exact Nat.mul_dvd_mul ((h.mem d).1 h1) (Nat.pow_dvd_pow p (by omega))
    · intro h1
      obtain ⟨d, j, h2, h3, rfl⟩ := dvd_mul_pow hp n h1
      cases j with
      | zero => exact .inl (by rw [Nat.pow_zero, Nat.mul_one]; exact (h.mem d).2 h2)
      | succ j => exact .inr ⟨d, (h.mem d).2 h2, mem_mulsP.2 ⟨j, by omega, rfl⟩⟩
  · rw [stepD_len]
    exact Nat.mul_le_mul h.len (succ_le_pow hp.1 n)
theorem outD_snoc (l : List (Nat × Nat)) (a : Nat × Nat) : outD (l ++ [a]) = stepD (outD l) a := by unfold outD; rw [List.foldl_append]; rfl
theorem prodPow_take {n : Nat} {l : List (Nat × Nat)} (h : Factors n l) {k : Nat} {a : Nat × Nat} (ha : l[k]? = some a) : prodPow (l.take (k + 1)) = prodPow (l.take k) * a.1 ^ a.2 ∧ ¬ a.1 ∣ prodPow (l.take k) := by
  have e : l.take (k + 1) = l.take k ++ [a] := by rw [List.take_add_one, ha]; rfl
  refine ⟨by rw [e, prodPow_append]; show _ * (a.1 ^ a.2 * 1) = _; rw [Nat.mul_one], fun hd => ?_⟩
  have hma := List.mem_of_getElem? ha
  obtain ⟨b, hb, he⟩ := pr_dvd_prodPow (h.pr a hma).1 hd (fun b hb => (h.pr b (List.mem_of_mem_take hb)).1)
  obtain ⟨i, hi⟩ := List.getElem?_of_mem hb
  have hik : i < k := by
    have := (List.getElem?_eq_some_iff.1 hi).1
    rw [List.length_take] at this
    omega
  rw [List.getElem?_take, if_pos hik] at hi
  obtain ⟨h1, h2⟩ := List.getElem?_eq_some_iff.1 ha
  obtain ⟨h3, h4⟩ := List.getElem?_eq_some_iff.1 hi
  have := List.pairwise_iff_getElem.1 h.inc i k h3 h1 hik
  rw [h2, h4] at this
  omega
theorem prodPow_take_le {n : Nat} {l : List (Nat × Nat)} (h : Factors n l) (k : Nat) : 1 ≤ prodPow (l.take k) ∧ prodPow (l.take k) ≤ n := by
  refine ⟨prodPow_pos fun a ha => h.pr a (List.mem_of_mem_take ha), ?_⟩
  have e : prodPow (l.take k) * prodPow (l.drop k) = n := by rw [← prodPow_append, List.take_append_drop]; exact h.prod
  have h1 : 1 ≤ prodPow (l.drop k) := prodPow_pos fun a ha => h.pr a (List.mem_of_mem_drop ha)
  rw [← e]
  exact Nat.le_mul_of_pos_right _ h1
theorem divList_take {n : Nat} {l : List (Nat × Nat)} (h : Factors n l) : ∀ k, k ≤ l.length → DivList (prodPow (l.take k)) (outD (l.take k))
  | 0, _ => by
    rw [List.take_zero]
    refine ⟨by simp [outD], fun x => ?_, by simp [outD, prodPow]⟩
    show x ∈ [1] ↔ x ∣ 1
    rw [List.mem_singleton, Nat.dvd_one]
  | k + 1, hk => by
    have ih := divList_take h k (by omega)
    obtain ⟨a, ha⟩ : ∃ a, l[k]? = some a := ⟨_, List.getElem?_eq_getElem (show k < l.length by omega)⟩
    obtain ⟨h1, h2⟩ := prodPow_take h ha
    have e : l.take (k + 1) = l.take k ++ [a] := by rw [List.take_add_one, ha]; rfl
    rw [h1, e, outD_snoc]
    exact ih.step (prodPow_take_le h k).1 (h.pr a (List.mem_of_getElem? ha)).1 h2
/-- The divisors, put in order, are the divisors in order. -/
theorem DivList.sorted {n : Nat} (hn : 1 ≤ n) {L : List Nat} (h : DivList n L) {S : List Nat} (hp : List.Perm S L) (hs : S.Pairwise (· ≤ ·)) : S = divs n := by
  have hne : S.Pairwise (· ≠ ·) := (hp.pairwise_iff (fun h => Ne.symm h)).2 h.nod
  refine sorted_ext ?_ (divs_sorted n) fun x => ?_
  · refine List.Pairwise.imp ?_ (hs.and hne)
    rintro a b ⟨h1, h2⟩
    omega
  · rw [mem_divs hn, hp.mem_iff, h.mem]
    constructor
    · intro hx
      exact ⟨Nat.pos_of_dvd_of_pos hx hn, hx⟩
    · exact fun hx => hx.2
theorem natInt_sort (L : List Nat) : ((L.map fun x : Nat => (x : Int)).mergeSort fun x y => decide (x ≤ y)) = (L.mergeSort fun x y => decide (x ≤ y)).map fun x : Nat => (x : Int) := by
  rw [List.map_mergeSort]
  intro a _ b _
  simp
theorem outD_sort {n : Nat} (hn : 1 ≤ n) {l : List (Nat × Nat)} (h : Factors n l) : (((outD l).map fun x : Nat => (x : Int)).mergeSort fun x y => decide (x ≤ y)) = (divs n).map fun x : Nat => (x : Int) := by
  rw [natInt_sort]
  congr 1
  have hd := divList_take h l.length (Nat.le_refl _)
  rw [List.take_length, h.prod] at hd
  refine hd.sorted hn (List.mergeSort_perm _ _) ?_
  have := List.pairwise_mergeSort (le := fun x y : Nat => decide (x ≤ y)) (fun a b c h1 h2 => by simp at *; omega) (fun a b => by simp; omega) (outD l)
  refine List.Pairwise.imp ?_ this
  intro a b h1
  simpa using h1
/-! Prefixes, as the rounds see them. -/
theorem outD_len {n : Nat} {l : List (Nat × Nat)} (h : Factors n l) {k : Nat} (hk : k ≤ l.length) : (outD (l.take k)).length ≤ n ∧ ∀ x ∈ outD (l.take k), 1 ≤ x ∧ x ≤ n := by
  have hd := divList_take h k hk
  have hp := prodPow_take_le h k
  refine ⟨Nat.le_trans hd.len hp.2, fun x hx => ?_⟩
  have h1 := (hd.mem x).1 hx
  exact ⟨Nat.pos_of_dvd_of_pos h1 (by omega), Nat.le_trans (Nat.le_of_dvd (by omega) h1) hp.2⟩
/-- What stands after i elements of L were multiplied by p up to n times. -/
def midD (L : List Nat) (p n i : Nat) : List Nat := L ++ (L.take i).flatMap fun d => mulsP p d n
theorem midD_zero (L : List Nat) (p n : Nat) : midD L p n 0 = L := by simp [midD]
theorem midD_all (L : List Nat) (p n : Nat) : midD L p n L.length = stepD L (p, n) := by simp [midD, stepD]
theorem midD_succ {L : List Nat} {p n i d : Nat} (h : L[i]? = some d) : midD L p n (i + 1) = midD L p n i ++ mulsP p d n := by
  unfold midD
  rw [List.take_add_one, h, List.flatMap_append]
  simp
theorem midD_len (L : List Nat) (p n i : Nat) (hi : i ≤ L.length) : (midD L p n i).length = L.length + i * n := by
  unfold midD
  rw [List.length_append, flat_len, List.length_take, Nat.min_eq_left hi]
theorem mid_le {L : List Nat} {p n i d j : Nat} (hi : i < L.length) (hj : j < n) : (midD L p n i ++ mulsP p d j).length + 1 ≤ (stepD L (p, n)).length := by
  rw [stepD_len, List.length_append, midD_len _ _ _ _ (by omega), mulsP_len]
  have h1 := Nat.mul_le_mul_right n (show i + 1 ≤ L.length by omega)
  rw [Nat.succ_mul] at h1
  rw [Nat.mul_succ]
  omega
theorem mul_mem {L : List Nat} {p n d j : Nat} (hd : d ∈ L) (hj : j < n) : d * p ^ (j + 1) ∈ stepD L (p, n) := by
  unfold stepD
  rw [List.mem_append, List.mem_flatMap]
  exact .inr ⟨d, hd, mem_mulsP.2 ⟨j, hj, rfl⟩⟩
end Go.Proofs.Ytmeffbooabionaa
namespace Go.Proofs.Ytmeffbooabionaa

theorem divs_lt {n i k a b : Nat} (hi : (divs n)[i]? = some a) (hk : (divs n)[k]? = some b) (h : i < k) : a < b := by
  obtain ⟨h1, h2⟩ := List.getElem?_eq_some_iff.1 hi
  obtain ⟨h3, h4⟩ := List.getElem?_eq_some_iff.1 hk
  have := List.pairwise_iff_getElem.1 (divs_sorted n) i k h1 h3 h
  rwa [h2, h4] at this
theorem divs_part {n i d : Nat} (hn : 1 ≤ n) (h : (divs n)[i]? = some d) : divs d = ((divs n).take i).filter (fun c => decide (c ∣ d)) ++ [d] := by
  obtain ⟨hd1, hdn⟩ := (mem_divs hn).1 (List.mem_of_getElem? h)
  refine sorted_ext (divs_sorted d) ?_ fun x => ?_
  · rw [List.pairwise_append]
    refine ⟨((divs_sorted n).sublist (List.take_sublist i _)).filter _, by simp, ?_⟩
    intro a ha b hb
    rw [List.mem_singleton] at hb
    subst hb
    obtain ⟨k, hk⟩ := List.getElem?_of_mem (List.mem_filter.1 ha).1
    have hki : k < i := by
      have := (List.getElem?_eq_some_iff.1 hk).1
      rw [List.length_take] at this
      omega
    rw [List.getElem?_take, if_pos hki] at hk
    exact divs_lt hk h hki
  · rw [mem_divs hd1, List.mem_append, List.mem_filter, List.mem_singleton, decide_eq_true_eq]
    constructor
    · rintro ⟨h1, h2⟩
      by_cases he : x = d
      · exact .inr he
      · left
        refine ⟨?_, h2⟩
        obtain ⟨k, hk⟩ := List.getElem?_of_mem ((mem_divs hn).2 ⟨h1, Nat.dvd_trans h2 hdn⟩)
        have hxd := Nat.le_of_dvd (by omega) h2
        have hki : k < i := by
          rcases Nat.lt_trichotomy k i with h3 | h3 | h3
          · exact h3
          · subst h3; rw [h] at hk; exact absurd (Option.some.inj hk).symm he
          · have := divs_lt h hk h3; omega
        exact List.mem_of_getElem? (show ((divs n).take i)[k]? = some x by rw [List.getElem?_take, if_pos hki]; exact hk)
    · rintro (⟨h1, h2⟩ | rfl)
      · exact ⟨((mem_divs hn).1 (List.mem_of_mem_take h1)).1, h2⟩
      · exact ⟨hd1, Nat.dvd_refl _⟩
/-- Of the first k divisors those that divide d too, their values together. -/
def accV (f : Nat → Int) (n d k : Nat) : Int := sumL f (((divs n).take k).filter fun c => decide (c ∣ d))
theorem accV_zero (f : Nat → Int) (n d : Nat) : accV f n d 0 = 0 := by simp [accV, sumL]
theorem accV_succ (f : Nat → Int) {n d k c : Nat} (h : (divs n)[k]? = some c) : accV f n d (k + 1) = accV f n d k + if c ∣ d then f c else 0 := by
  unfold accV
  have e : (divs n).take (k + 1) = (divs n).take k ++ [c] := by rw [List.take_add_one, h]; rfl
  rw [e, List.filter_append, sumL_append]
  congr 1
  by_cases hc : c ∣ d <;> simp [hc, sumL]
theorem accV_bd (f : Nat → Int) (B : Int) {n d : Nat} (hB : ∀ c ∈ divs n, -B ≤ f c ∧ f c ≤ B) (h0 : 0 ≤ B) : ∀ k : Nat, -(B * k) ≤ accV f n d k ∧ accV f n d k ≤ B * k
  | 0 => by rw [accV_zero]; simp
  | k + 1 => by
    have ih := accV_bd f B (d := d) hB h0 k
    have e : B * ((k + 1 : Nat) : Int) = B * k + B := by push_cast; rw [Int.mul_add, Int.mul_one]
    rw [e]
    cases hc : (divs n)[k]? with
    | none =>
      have : accV f n d (k + 1) = accV f n d k := by
        unfold accV
        rw [List.getElem?_eq_none_iff] at hc
        rw [List.take_of_length_le hc, List.take_of_length_le (by omega)]
      rw [this]; omega
    | some c =>
      rw [accV_succ f hc]
      have := hB c (List.mem_of_getElem? hc)
      split <;> omega
theorem accV_end {f : Nat → Int} {n i d : Nat} (hn : 1 ≤ n) (h : (divs n)[i]? = some d) : sd f d - accV f n d i = f d := by
  unfold sd accV
  rw [divs_part hn h, sumL_append, sumL_cons, sumL_nil]
  omega
theorem divs_length (n : Nat) : (divs n).length ≤ n + 1 := by unfold divs; exact Nat.le_trans (List.length_filter_le _ _) (by simp)
theorem divs_pos {n : Nat} (hn : 1 ≤ n) : 0 < (divs n).length := List.length_pos_of_mem ((mem_divs hn).2 ⟨hn, Nat.dvd_refl _⟩)
theorem divs_last {n i d : Nat} (hn : 1 ≤ n) (h : (divs n)[i]? = some d) (hi : i + 1 = (divs n).length) : d = n := by
  obtain ⟨k, hk⟩ := List.getElem?_of_mem ((mem_divs hn).2 ⟨hn, Nat.dvd_refl n⟩)
  have h1 := (List.getElem?_eq_some_iff.1 hk).1
  by_cases he : k = i
  · subst he; rw [h] at hk; exact Option.some.inj hk
  · have h2 := divs_lt hk h (by omega)
    have := Nat.le_of_dvd (by omega) ((mem_divs hn).1 (List.mem_of_getElem? h)).2
    omega
theorem divs_first {n i d : Nat} (hn : 1 ≤ n) (h : (divs n)[i]? = some d) : i = 0 ↔ d = 1 := by
  obtain ⟨k, hk⟩ := List.getElem?_of_mem ((mem_divs hn).2 ⟨Nat.le_refl 1, Nat.one_dvd n⟩)
  have hd1 := ((mem_divs hn).1 (List.mem_of_getElem? h)).1
  constructor
  · intro hi
    subst hi
    rcases Nat.eq_zero_or_pos k with h0 | h0
    · subst h0; rw [h] at hk; exact Option.some.inj hk
    · have := divs_lt h hk h0; omega
  · intro hd
    subst hd
    rcases Nat.eq_zero_or_pos i with h0 | h0
    · exact h0
    · obtain ⟨c, hc⟩ : ∃ c, (divs n)[0]? = some c := ⟨_, List.getElem?_eq_getElem (divs_pos hn)⟩
      have := divs_lt hc h h0
      have := ((mem_divs hn).1 (List.mem_of_getElem? hc)).1
      omega
theorem phiG_bd {p k : Nat} (hp : 2 ≤ p) (hk : 1 ≤ k) : 0 ≤ phiG p k ∧ phiG p k ≤ ((p ^ k : Nat) : Int) := by
  obtain ⟨j, rfl⟩ : ∃ j, k = j + 1 := ⟨k - 1, by omega⟩
  have e : phiG p (j + 1) = ((p ^ j * (p - 1) : Nat) : Int) := by
    unfold phiG
    rw [Nat.add_sub_cancel]
    push_cast
    rw [show ((p - 1 : Nat) : Int) = (p : Int) - 1 by omega]
  rw [e]
  refine ⟨by omega, ?_⟩
  rw [Nat.pow_succ]
  exact_mod_cast Nat.mul_le_mul_left _ (Nat.sub_le _ _)
theorem valL_phi_bd : ∀ {l : List (Nat × Nat)}, (∀ a ∈ l, IsPr a.1 ∧ 1 ≤ a.2) → 0 ≤ valL phiG l ∧ valL phiG l ≤ (prodPow l : Int)
  | [], _ => by simp [valL, prodPow]
  | a :: l, h => by
    have h1 := h a (List.mem_cons_self ..)
    have ih := valL_phi_bd fun b hb => h b (List.mem_cons_of_mem _ hb)
    have h2 := phiG_bd h1.1.1 h1.2
    show 0 ≤ phiG a.1 a.2 * valL phiG l ∧ phiG a.1 a.2 * valL phiG l ≤ ((a.1 ^ a.2 * prodPow l : Nat) : Int)
    refine ⟨Int.mul_nonneg h2.1 ih.1, ?_⟩
    rw [Int.natCast_mul]
    exact Int.mul_le_mul h2.2 ih.2 ih.1 (by omega)
theorem phi_bd {n : Nat} (hn : 1 ≤ n) : 0 ≤ phi n ∧ phi n ≤ n := by
  have h := facs_spec hn
  have h2 := valL_phi_bd h.pr
  rw [h.prod] at h2
  exact h2
theorem mu_bd' (n : Nat) : -1 ≤ mu n ∧ mu n ≤ 1 := by
  have key : ∀ l : List (Nat × Nat), -1 ≤ valL muG l ∧ valL muG l ≤ 1 := by
    intro l
    induction l with
    | nil => simp [valL]
    | cons a l ih =>
      simp only [valL, muG]
      split
      · omega
      · omega
  exact key _
end Go.Proofs.Ytmeffbooabionaa
