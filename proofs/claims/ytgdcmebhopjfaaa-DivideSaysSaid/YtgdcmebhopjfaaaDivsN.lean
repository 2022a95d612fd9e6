/- The recursions over the divisors in order (EULER's function by GAUSS's sum, MOEBIUS's), in plain arithmetic. -/
import Derived.Test.YtgdcmebhopjfaaaDivsM
namespace Go.Proofs.Ytgdcmebhopjfaaa

theorem divs_lt {n i k a b : Nat} (hi : (divs n)[i]? = some a) (hk : (divs n)[k]? = some b) (h : i < k) : a < b := by
  obtain ⟨h1, h2⟩ := List.getElem?_eq_some_iff.1 hi
  obtain ⟨h3, h4⟩ := List.getElem?_eq_some_iff.1 hk
  have := List.pairwise_iff_getElem.1 (divs_sorted n) i k h1 h3 h
  rwa [h2, h4] at this
theorem divs_part {n i d : Nat} (hn : 1 ≤ n) (h : (divs n)[i]? = some d) : divs d = ((divs n).take i).filter (fun c => decide (c ∣ d)) ++ [d] := by
  obtain ⟨hd1, hdn⟩ := (mem_divs hn).1 (List.mem_of_getElem? h)
  refine sorted_ext (divs_sorted d) ?_ fun x => ?_
  · rw [List.pairwise_append]
    refine ⟨((divs_sorted n).sublist (List.take_sublist i _)).filter _, by simp, ?_⟩
    intro a ha b hb
    rw [List.mem_singleton] at hb
    subst hb
    obtain ⟨k, hk⟩ := List.getElem?_of_mem (List.mem_filter.1 ha).1
    have hki : k < i := by
      have := (List.getElem?_eq_some_iff.1 hk).1
      rw [List.length_take] at this
      omega
    rw [List.getElem?_take, if_pos hki] at hk
    exact divs_lt hk h hki
  · rw [mem_divs hd1, List.mem_append, List.mem_filter, List.mem_singleton, decide_eq_true_eq]
    constructor
    · rintro ⟨h1, h2⟩
      by_cases he : x = d
      · exact .inr he
      · left
        refine ⟨?_, h2⟩
        obtain ⟨k, hk⟩ := List.getElem?_of_mem ((mem_divs hn).2 ⟨h1, Nat.dvd_trans h2 hdn⟩)
        have hxd := Nat.le_of_dvd (by omega) h2
        have hki : k < i := by
          rcases Nat.lt_trichotomy k i with h3 | h3 | h3
          · exact h3
          · subst h3; rw [h] at hk; exact absurd (Option.some.inj hk).symm he
          · have := divs_lt h hk h3; omega
        exact List.mem_of_getElem? (show ((divs n).take i)[k]? = some x by rw [List.getElem?_take, if_pos hki]; exact hk)
    · rintro (⟨h1, h2⟩ | rfl)
      · exact ⟨((mem_divs hn).1 (List.mem_of_mem_take h1)).1, h2⟩
      · exact ⟨hd1, Nat.dvd_refl _⟩
/-- Of the first k divisors those that divide d too, their values together. -/
def accV (f : Nat → Int) (n d k : Nat) : Int := sumL f (((divs n).take k).filter fun c => decide (c ∣ d))
theorem accV_zero (f : Nat → Int) (n d : Nat) : accV f n d 0 = 0 := by simp [accV, sumL]
theorem accV_succ (f : Nat → Int) {n d k c : Nat} (h : (divs n)[k]? = some c) : accV f n d (k + 1) = accV f n d k + if c ∣ d then f c else 0 := by
  unfold accV
  have e : (divs n).take (k + 1) = (divs n).take k ++ [c] := by rw [List.take_add_one, h]; rfl
  rw [e, List.filter_append, sumL_append]
  congr 1
  by_cases hc : c ∣ d <;> simp [hc, sumL]
theorem accV_bd (f : Nat → Int) (B : Int) {n d : Nat} (hB : ∀ c ∈ divs n, -B ≤ f c ∧ f c ≤ B) (h0 : 0 ≤ B) : ∀ k : Nat, -(B * k) ≤ accV f n d k ∧ accV f n d k ≤ B * k
  | 0 => by rw [accV_zero]; simp
  | k + 1 => by
    have ih := accV_bd f B (d := d) hB h0 k
    have e : B * ((k + 1 : Nat) : Int) = B * k + B := by push_cast; rw [Int.mul_add, Int.mul_one]
    rw [e]
    cases hc : (divs n)[k]? with
    | none =>
      have : accV f n d (k + 1) = accV f n d k := by
        unfold accV
        rw [List.getElem?_eq_none_iff] at hc
        rw [List.take_of_length_le hc, List.take_of_length_le (by omega)]
      rw [this]; omega
    | some c =>
      rw [accV_succ f hc]
      have := hB c (List.mem_of_getElem? hc)
      split <;> omega
theorem accV_end {f : Nat → Int} {n i d : Nat} (hn : 1 ≤ n) (h : (divs n)[i]? = some d) : sd f d - accV f n d i = f d := by
  unfold sd accV
  rw [divs_part hn h, sumL_append, sumL_cons, sumL_nil]
  omega
theorem divs_length (n : Nat) : (divs n).length ≤ n + 1 := by unfold divs; exact Nat.le_trans (List.length_filter_le _ _) (by simp)
theorem divs_pos {n : Nat} (hn : 1 ≤ n) : 0 < (divs n).length := List.length_pos_of_mem ((mem_divs hn).2 ⟨hn, Nat.dvd_refl _⟩)
theorem divs_last {n i d : Nat} (hn : 1 ≤ n) (h : (divs n)[i]? = some d) (hi : i + 1 = (divs n).length) : d = n := by
  obtain ⟨k, hk⟩ := List.getElem?_of_mem ((mem_divs hn).2 ⟨hn, Nat.dvd_refl n⟩)
  have h1 := (List.getElem?_eq_some_iff.1 hk).1
  by_cases he : k = i
  · subst he; rw [h] at hk; exact Option.some.inj hk
  · have h2 := divs_lt hk h (by omega)
    have := Nat.le_of_dvd (by omega) ((mem_divs hn).1 (List.mem_of_getElem? h)).2
    omega
theorem divs_first {n i d : Nat} (hn : 1 ≤ n) (h : (divs n)[i]? = some d) : i = 0 ↔ d = 1 := by
  obtain ⟨k, hk⟩ := List.getElem?_of_mem ((mem_divs hn).2 ⟨Nat.le_refl 1, Nat.one_dvd n⟩)
  have hd1 := ((mem_divs hn).1 (List.mem_of_getElem? h)).1
  constructor
  · intro hi
    subst hi
    rcases Nat.eq_zero_or_pos k with h0 | h0
    · subst h0; rw [h] at hk; exact Option.some.inj hk
    · have := divs_lt h hk h0; omega
  · intro hd
    subst hd
    rcases Nat.eq_zero_or_pos i with h0 | h0
    · exact h0
    · obtain ⟨c, hc⟩ : ∃ c, (divs n)[0]? = some c := ⟨_, List.getElem?_eq_getElem (divs_pos hn)⟩
      have := divs_lt hc h h0
      have := ((mem_divs hn).1 (List.mem_of_getElem? hc)).1
      omega
theorem phiG_bd {p k : Nat} (hp : 2 ≤ p) (hk : 1 ≤ k) : 0 ≤ phiG p k ∧ phiG p k ≤ ((p ^ k : Nat) : Int) := by
  obtain ⟨j, rfl⟩ : ∃ j, k = j + 1 := ⟨k - 1, by omega⟩
  have e : phiG p (j + 1) = ((p ^ j * (p - 1) : Nat) : Int) := by
    unfold phiG
    rw [Nat.add_sub_cancel]
    push_cast
    rw [show ((p - 1 : Nat) : Int) = (p : Int) - 1 by omega]
  rw [e]
  refine ⟨by omega, ?_⟩
  rw [Nat.pow_succ]
  exact_mod_cast Nat.mul_le_mul_left _ (Nat.sub_le _ _)
theorem valL_phi_bd : ∀ {l : List (Nat × Nat)}, (∀ a ∈ l, IsPr a.1 ∧ 1 ≤ a.2) → 0 ≤ valL phiG l ∧ valL phiG l ≤ (prodPow l : Int)
  | [], _ => by simp [valL, prodPow]
  | a :: l, h => by
    have h1 := h a (List.mem_cons_self ..)
    have ih := valL_phi_bd fun b hb => h b (List.mem_cons_of_mem _ hb)
    have h2 := phiG_bd h1.1.1 h1.2
    show 0 ≤ phiG a.1 a.2 * valL phiG l ∧ phiG a.1 a.2 * valL phiG l ≤ ((a.1 ^ a.2 * prodPow l : Nat) : Int)
    refine ⟨Int.mul_nonneg h2.1 ih.1, ?_⟩
    rw [Int.natCast_mul]
    exact Int.mul_le_mul h2.2 ih.2 ih.1 (by omega)
theorem phi_bd {n : Nat} (hn : 1 ≤ n) : 0 ≤ phi n ∧ phi n ≤ n := by
  have h := facs_spec hn
  have h2 := valL_phi_bd h.pr
  rw [h.prod] at h2
  exact h2
theorem mu_bd' (n : Nat) : -1 ≤ mu n ∧ mu n ≤ 1 := by
  have key : ∀ l : List (Nat × Nat), -1 ≤ valL muG l ∧ valL muG l ≤ 1 := by
    intro l
    induction l with
    | nil => simp [valL]
    | cons a l ih =>
      simp only [valL, muG]
      split
      · omega
      · omega
  exact key _
end Go.Proofs.Ytgdcmebhopjfaaa
