/- Double parity in plain arithmetic: no program in sight. -/
import Derived.Test.YthnbhhfbmkklmaaFieldN
namespace Go.Proofs.Ythnbhhfbmkklmaa

def xorN : Nat → (Nat → Nat) → Nat
  | 0, _ => 0
  | n + 1, f => xorN n f ^^^ f n
theorem xorN_lt {n : Nat} {f : Nat → Nat} (h : ∀ i, i < n → f i < 256) : xorN n f < 256 := by
  induction n with
  | zero => simp [xorN]
  | succ n ih => exact xor_lt256 (ih fun i hi => h i (by omega)) (h n (by omega))
theorem xorN_congr {n : Nat} {f g : Nat → Nat} (h : ∀ i, i < n → f i = g i) : xorN n f = xorN n g := by
  induction n with
  | zero => rfl
  | succ n ih => simp only [xorN]; rw [ih fun i hi => h i (by omega), h n (by omega)]
theorem xorN_xor (n : Nat) (f g : Nat → Nat) : xorN n (fun i => f i ^^^ g i) = xorN n f ^^^ xorN n g := by
  induction n with
  | zero => simp [xorN]
  | succ n ih => simp only [xorN]; rw [ih, xor4]
theorem xorN_zero (n : Nat) : xorN n (fun _ => 0) = 0 := by
  induction n with
  | zero => rfl
  | succ n ih => simp [xorN, ih]
theorem xorN_one {n j : Nat} (v : Nat) (h : j < n) : xorN n (fun i => if i = j then v else 0) = v := by
  induction n with
  | zero => omega
  | succ n ih =>
    simp only [xorN]
    by_cases hj : j = n
    · subst hj
      rw [if_pos rfl, xorN_congr (g := fun _ => 0) (fun i hi => if_neg (by omega)), xorN_zero, Nat.zero_xor]
    · rw [ih (by omega), if_neg (by omega), Nat.xor_zero]
/-- The weighted parity. -/
def wtd (f : Nat → Nat) (i : Nat) : Nat := gmul (f i) (gpow 2 i)
theorem wtd_lt {f : Nat → Nat} {i : Nat} (h : f i < 256) : wtd f i < 256 := gmul_lt h
/-- The reference's second parity, behind s blocks from the end. -/
def horR (n : Nat) (f : Nat → Nat) : Nat → Nat
  | 0 => 0
  | s + 1 => gmul (horR n f s) 2 ^^^ f (n - 1 - s)
def horX (n : Nat) (f : Nat → Nat) : Nat → Nat
  | 0 => 0
  | s + 1 => horX n f s ^^^ f (n - 1 - s)
theorem horR_lt {n : Nat} {f : Nat → Nat} (h : ∀ i, i < n → f i < 256) : ∀ s, s ≤ n → horR n f s < 256
  | 0, _ => by simp [horR]
  | s + 1, hs => xor_lt256 (gmul_lt (horR_lt h s (by omega))) (h _ (by omega))
theorem horX_lt {n : Nat} {f : Nat → Nat} (h : ∀ i, i < n → f i < 256) : ∀ s, s ≤ n → horX n f s < 256
  | 0, _ => by simp [horX]
  | s + 1, hs => xor_lt256 (horX_lt h s (by omega)) (h _ (by omega))
theorem horX_sum {n : Nat} {f : Nat → Nat} : ∀ s, s ≤ n → xorN n f = xorN (n - s) f ^^^ horX n f s
  | 0, _ => by simp [horX]
  | s + 1, hs => by
    rw [horX_sum s (by omega)]
    obtain ⟨m, hm⟩ : ∃ m, n - s = m + 1 := ⟨n - s - 1, by omega⟩
    have e1 : n - (s + 1) = m := by omega
    have e2 : n - 1 - s = m := by omega
    rw [hm, e1]
    simp only [xorN, horX]
    rw [e2, Nat.xor_assoc, Nat.xor_comm (f m)]
theorem horR_sum {n : Nat} {f : Nat → Nat} (h : ∀ i, i < n → f i < 256) : ∀ s, s ≤ n → xorN n (wtd f) = xorN (n - s) (wtd f) ^^^ gmul (horR n f s) (gpow 2 (n - s))
  | 0, _ => by simp [horR, zero_gmul]
  | s + 1, hs => by
    rw [horR_sum h s (by omega)]
    obtain ⟨m, hm⟩ : ∃ m, n - s = m + 1 := ⟨n - s - 1, by omega⟩
    have e1 : n - (s + 1) = m := by omega
    have e2 : n - 1 - s = m := by omega
    have hl := horR_lt h s (by omega)
    rw [hm, e1]
    simp only [xorN, horR]
    rw [e2, gmul_left _ (gmul_lt hl) (h m (by omega))]
    have e3 : gmul (gmul (horR n f s) 2) (gpow 2 m) = gmul (horR n f s) (gpow 2 (m + 1)) := by
      rw [gmul_assoc hl (by omega) (gpow_lt m), gmul_comm (show 2 < 256 by omega) (gpow_lt m)]; rfl
    rw [e3, Nat.xor_assoc, Nat.xor_comm (wtd f m)]
    rfl
theorem horX_all (n : Nat) (f : Nat → Nat) : horX n f n = xorN n f := by
  rw [horX_sum n (Nat.le_refl _), Nat.sub_self]; simp [xorN]
theorem horR_all {n : Nat} {f : Nat → Nat} (h : ∀ i, i < n → f i < 256) : horR n f n = xorN n (wtd f) := by
  rw [horR_sum h n (Nat.le_refl _), Nat.sub_self]
  simp only [xorN, gpow]
  rw [gmul_one (horR_lt h n (Nat.le_refl _)), Nat.zero_xor]
/-- Some left out. -/
def left (lost : List Int) (f : Nat → Nat) (i : Nat) : Nat := if (i : Int) ∈ lost then 0 else f i
theorem left_lt {lost : List Int} {f : Nat → Nat} {i : Nat} (h : f i < 256) : left lost f i < 256 := by unfold left; split <;> omega
theorem left_nil (f : Nat → Nat) : left [] f = f := by funext i; simp [left]
theorem left_wtd (lost : List Int) (f : Nat → Nat) : left lost (wtd f) = wtd (left lost f) := by
  funext i
  show left lost (wtd f) i = gmul (left lost f i) (gpow 2 i)
  unfold left
  show (if (i : Int) ∈ lost then 0 else gmul (f i) (gpow 2 i)) = _
  by_cases h : (i : Int) ∈ lost
  · rw [if_pos h, if_pos h, zero_gmul]
  · rw [if_neg h, if_neg h]
/-- One block set anew. -/
def put1 (f : Nat → Nat) (j v : Nat) (i : Nat) : Nat := if i = j then v else f i
theorem put1_split {f : Nat → Nat} {j v : Nat} : put1 f j v = fun i => left [(j : Int)] f i ^^^ (if i = j then v else 0) := by
  funext i
  unfold put1 left
  by_cases h : i = j
  · subst h; simp
  · have h2 : ¬ ((i : Int) = (j : Int)) := by omega
    simp [h, h2]
theorem put1_sum {n j : Nat} (f : Nat → Nat) (v : Nat) (h : j < n) : xorN n (put1 f j v) = xorN n (left [(j : Int)] f) ^^^ v := by
  rw [put1_split, xorN_xor, xorN_one v h]
theorem wtd_put1 (f : Nat → Nat) (j v : Nat) : wtd (put1 f j v) = put1 (wtd f) j (gmul v (gpow 2 j)) := by
  funext i; unfold wtd put1
  by_cases h : i = j
  · subst h; simp
  · simp [h]
theorem put2_sum {n g h : Nat} (f : Nat → Nat) (u v : Nat) (hg : g < n) (hh : h < n) (hne : g ≠ h) : xorN n (put1 (put1 f g u) h v) = xorN n (left [(g : Int), (h : Int)] f) ^^^ u ^^^ v := by
  rw [put1_sum _ _ hh]
  have e : left [(h : Int)] (put1 f g u) = put1 (left [(g : Int), (h : Int)] f) g u := by
    funext i; unfold left put1
    by_cases h1 : i = g
    · subst h1
      have h3 : ¬ ((i : Int) = (h : Int)) := by omega
      simp [hne, h3]
    · by_cases h2 : i = h
      · subst h2; simp [h1]
      · have h3 : ¬ ((i : Int) = (h : Int)) := by omega
        have h4 : ¬ ((i : Int) = (g : Int)) := by omega
        simp [h1, h3, h4]
  rw [e, put1_sum _ _ hg]
  congr 2
  apply xorN_congr
  intro i _
  unfold left
  by_cases h1 : (i : Int) = g <;> simp [h1]
theorem xor_eq_iff {a b c : Nat} : a ^^^ b = c ↔ b = a ^^^ c := by
  constructor
  · rintro rfl; rw [← Nat.xor_assoc, Nat.xor_self, Nat.zero_xor]
  · rintro rfl; rw [← Nat.xor_assoc, Nat.xor_self, Nat.zero_xor]
theorem xor_zero_iff {a b : Nat} : a ^^^ b = 0 ↔ a = b := by
  rw [xor_eq_iff, Nat.xor_zero]; exact eq_comm
/-- The two weights of two lost blocks differ. -/
theorem wt_ne : ∀ g h : Fin 10, g ≠ h → gpow 2 g.val ^^^ gpow 2 h.val ≠ 0 := by
  have p : ∀ i : Fin 10, gpow 2 i.val = (powList 10 1).getD i.val 0 := fun i => by
    have hh := powList_get 10 1 i.val (by omega) (by omega)
    rw [one_gmul (gpow_lt _)] at hh
    rw [List.getD_eq_getElem?_getD, hh]; rfl
  intro g h
  rw [p g, p h]
  revert g h
  decide
theorem two_solve {a b G H : Nat} (ha : a < 256) (hb : b < 256) (hG : G < 256) (hH : H < 256) (hne : G ^^^ H ≠ 0) :
    let u := gmul (b ^^^ gmul a H) (ginv (G ^^^ H))
    gmul u G ^^^ gmul (a ^^^ u) H = b := by
  intro u
  have hGH := xor_lt256 hG hH
  have hu : u < 256 := gmul_lt (xor_lt256 hb (gmul_lt ha))
  have h1 : gmul u (G ^^^ H) = b ^^^ gmul a H := by
    show gmul (gmul _ _) _ = _
    rw [gmul_assoc (xor_lt256 hb (gmul_lt ha)) (ginv_lt hGH) hGH, gmul_comm (ginv_lt hGH) hGH, gmul_ginv hGH hne, gmul_one (xor_lt256 hb (gmul_lt ha))]
  rw [gmul_left _ ha hu]
  rw [gmul_right] at h1
  rw [Nat.xor_comm (gmul a H), ← Nat.xor_assoc, h1, Nat.xor_assoc, Nat.xor_self, Nat.xor_zero]
end Go.Proofs.Ythnbhhfbmkklmaa
