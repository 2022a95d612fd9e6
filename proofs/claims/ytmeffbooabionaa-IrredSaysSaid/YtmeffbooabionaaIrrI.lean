/- An irreducible monic polynomial of each degree: what the table's checks say. -/
import Derived.Test.YtmeffbooabionaaIrrH
set_option linter.unusedVariables false
set_option linter.unusedSimpArgs false
namespace Go.Proofs.Ytmeffbooabionaa
open Go.RowKit

/-! ### What the checks say -/
theorem frc_eq {α : Type} (v : Nat) (k : Nat → α) : frc v k = k v := by cases v <;> rfl
theorem cond_and {a b : Bool} (h : cond a b false = true) : a = true ∧ b = true := by cases a <;> simp_all
theorem chkD_all {p n d : Nat} {F : List Nat} : ∀ m, chkD p n d F m = true → ∀ j, j < m → nz (dv p (hiD p d j) (n + 1 - d) F) = true
  | 0, _, j, hj => by omega
  | m + 1, h, j, hj => by
    obtain ⟨h1, h2⟩ := cond_and h
    rcases Nat.lt_or_ge j m with h3 | h3
    · exact chkD_all m h2 j h3
    · obtain rfl : j = m := by omega
      exact h1
theorem chkN_all {p n : Nat} {F : List Nat} : ∀ m, chkN p n F m = true → ∀ d, 1 ≤ d → d ≤ m → chkD p n d F (p ^ d) = true
  | 0, _, d, h1, h2 => by omega
  | m + 1, h, d, hd1, hd => by
    obtain ⟨h1, h2⟩ := cond_and h
    rcases Nat.lt_or_ge m d with h3 | h3
    · obtain rfl : d = m + 1 := by omega
      exact h1
    · exact chkN_all m h2 d hd1 h3
theorem allW_all : ∀ l, allW l = true → ∀ e ∈ l, chkW e.1 e.2.1 e.2.2 = true
  | [], _, e, he => by cases he
  | a :: l, h, e, he => by
    obtain ⟨h1, h2⟩ := cond_and h
    rcases List.mem_cons.1 he with rfl | h3
    · exact h1
    · exact allW_all l h2 e h3
theorem hasW_mem {p n : Nat} : ∀ l, hasW p n l = true → ∃ k, (p, n, k) ∈ l
  | [], h => by cases h
  | (a, b, c) :: l, h => by
    have h' : cond (Nat.beq a p && Nat.beq b n) true (hasW p n l) = true := h
    cases h1 : (Nat.beq a p && Nat.beq b n) with
    | true =>
      rw [Bool.and_eq_true] at h1
      obtain rfl := Nat.eq_of_beq_eq_true h1.1
      obtain rfl := Nat.eq_of_beq_eq_true h1.2
      exact ⟨c, List.mem_cons_self⟩
    | false =>
      rw [h1] at h'
      obtain ⟨k, hk⟩ := hasW_mem l h'
      exact ⟨k, List.mem_cons_of_mem _ hk⟩
theorem hasA_all {p : Nat} : ∀ m, hasA p m = true → ∀ n, n < m → (Nat.ble n 1 || !(Nat.ble (p ^ n) 1000000) || hasW p n witT) = true
  | 0, _, j, hj => by omega
  | m + 1, h, j, hj => by
    obtain ⟨h1, h2⟩ := cond_and h
    rcases Nat.lt_or_ge j m with h3 | h3
    · exact hasA_all m h2 j h3
    · obtain rfl : j = m := by omega
      exact h1
theorem hasP_all : ∀ m, hasP m = true → ∀ p, p < m → (!(smallPr p) || hasA p 20) = true
  | 0, _, j, hj => by omega
  | m + 1, h, j, hj => by
    obtain ⟨h1, h2⟩ := cond_and h
    rcases Nat.lt_or_ge j m with h3 | h3
    · exact hasP_all m h2 j h3
    · obtain rfl : j = m := by omega
      exact h1
theorem smallPr_of {p : Nat} (h : IsPr p) : smallPr p = true := by
  unfold smallPr
  rw [Bool.and_eq_true, List.all_eq_true]
  refine ⟨Nat.ble_eq_true_of_le h.1, fun q hq => ?_⟩
  cases h1 : Nat.beq p q with
  | true => rfl
  | false =>
    have hne : p ≠ q := fun e => by rw [e] at h1; simp at h1
    have hq2 : 2 ≤ q := by simp at hq; omega
    cases h2 : Nat.beq (p % q) 0 with
    | false => rfl
    | true =>
      exfalso
      have h3 := Nat.eq_of_beq_eq_true h2
      have h4 : q ∣ p := Nat.dvd_of_mod_eq_zero h3
      have h5 := Nat.le_of_dvd (by have := h.1; omega) h4
      exact h.2 q hq2 (by omega) h4
/-! ### The division is the one of remZ -/
theorem zs_cons (p a b x : Nat) (G L : List Nat) : zs p a (b :: G) (x :: L) = (x + (p - b) * a) % p :: zs p a G L := frc_eq ((x + (p - b) * a) % p) fun v => v :: zs p a G L
theorem zs_length (p a : Nat) : ∀ (G L : List Nat), (zs p a G L).length = L.length
  | [], _ => rfl
  | _ :: _, [] => rfl
  | b :: G, x :: L => by rw [zs_cons, List.length_cons, List.length_cons, zs_length p a G L]
def zsv (p a x : Nat) : Option Nat → Nat
  | some b => (x + (p - b) * a) % p
  | none => x
theorem zs_get (p a : Nat) : ∀ (G L : List Nat) (i : Nat), (zs p a G L)[i]? = L[i]?.map fun x => zsv p a x G[i]?
  | [], L, i => by
    show L[i]? = _
    cases L[i]? <;> rfl
  | _ :: _, [], i => by
    show ([] : List Nat)[i]? = _
    simp
  | b :: G, x :: L, 0 => by rw [zs_cons]; rfl
  | b :: G, x :: L, i + 1 => by rw [zs_cons, List.getElem?_cons_succ, List.getElem?_cons_succ, List.getElem?_cons_succ, zs_get p a G L i]
theorem hiD_succ (p d k : Nat) : hiD p (d + 1) k = dig p k d :: hiD p d k := frc_eq (k / p ^ d % p) fun v => v :: hiD p d k
theorem hiD_get (p k : Nat) : ∀ (d i : Nat), (hiD p d k)[i]? = if i < d then some (dig p k (d - 1 - i)) else none
  | 0, i => by
    show ([] : List Nat)[i]? = _
    simp
  | d + 1, 0 => by rw [hiD_succ, if_pos (by omega)]; rfl
  | d + 1, i + 1 => by
    rw [hiD_succ, List.getElem?_cons_succ, hiD_get p k d i]
    by_cases h : i < d
    · rw [if_pos h, if_pos (by omega)]; congr 2; omega
    · rw [if_neg h, if_neg (by omega)]
theorem hiD_length (p k : Nat) : ∀ d, (hiD p d k).length = d
  | 0 => rfl
  | d + 1 => by rw [hiD_succ, List.length_cons, hiD_length p k d]
theorem co_mon_lt {p d k i : Nat} (h : i < d) : co (mon p d k) i = (dig p k i : Int) := by
  unfold co mon monN digsN
  rw [List.getElem?_map, List.getElem?_append_left (by simpa using h), List.getElem?_map, List.getElem?_range h]
  rfl
theorem co_mon_top (p d k : Nat) : co (mon p d k) d = 1 := by
  have := mon_top p d k
  rwa [mon_len, Nat.add_sub_cancel] at this
def St (p n k d j t : Nat) (L : List Nat) : Prop :=
  L.length = n + 1 - t ∧ ∀ (i x : Nat), L[i]? = some x → ((x : Nat) : Int) = rdn p 1 (mon p d j) (co (mon p n k)) (n + 1 - d) t (n - t - i)
theorem St_zero (p n k d j : Nat) : St p n k d j 0 (1 :: hiD p n k) := by
  refine ⟨by rw [List.length_cons, hiD_length]; rfl, fun i x hx => ?_⟩
  show (x : Int) = co (mon p n k) (n - 0 - i)
  cases i with
  | zero =>
    obtain rfl : 1 = x := by simpa using hx
    rw [Nat.sub_zero, Nat.sub_zero, co_mon_top]; rfl
  | succ i =>
    rw [List.getElem?_cons_succ, hiD_get] at hx
    by_cases h : i < n
    · rw [if_pos h] at hx
      injection hx with hx
      rw [co_mon_lt (by omega), ← hx, show n - 0 - (i + 1) = n - 1 - i by omega]
    · rw [if_neg h] at hx; cases hx
theorem St_step {p n k d j t a : Nat} {L : List Nat} (hp : 2 ≤ p) (D : DivOk (p : Int) 1 (mon p d j) (mon p n k)) (hd1 : 1 ≤ d) (ht : t + 1 ≤ n + 1 - d) (h : St p n k d j t (a :: L)) : St p n k d j (t + 1) (zs p a (hiD p d j) L) := by
  have hl := h.1
  rw [List.length_cons] at hl
  refine ⟨by rw [zs_length]; omega, fun i y hy => ?_⟩
  rw [zs_get] at hy
  cases hx : L[i]? with
  | none => rw [hx] at hy; cases hy
  | some x =>
    rw [hx] at hy
    have hi := (List.getElem?_eq_some_iff.1 hx).1
    have ha := h.2 0 a rfl
    have hX := h.2 (i + 1) x (by rw [List.getElem?_cons_succ, hx])
    have hy' : zsv p a x (hiD p d j)[i]? = y := by simpa using hy
    obtain ⟨m, hm⟩ : ∃ m, n - (t + 1) - i = m := ⟨_, rfl⟩
    rw [show n - t - (i + 1) = m by omega] at hX
    rw [show n - t - 0 = n - t by omega] at ha
    rw [hm]
    show (y : Int) = (rdn p 1 (mon p d j) (co (mon p n k)) (n + 1 - d) t m - rdn p 1 (mon p d j) (co (mon p n k)) (n + 1 - d) t (n + 1 - d - 1 - t + (mon p d j).length - 1) * 1 * sh (mon p d j) (n + 1 - d - 1 - t) m) % p
    rw [mon_len, show n + 1 - d - 1 - t + (d + 1) - 1 = n - t by omega, ← hX, ← ha, Int.mul_one]
    rw [hiD_get] at hy'
    by_cases h2 : i < d
    · rw [if_pos h2] at hy'
      rw [show m = (n + 1 - d - 1 - t) + (d - 1 - i) by omega, sh_add, co_mon_lt (by omega), ← hy']
      have hb : dig p j (d - 1 - i) < p := Nat.mod_lt _ (by omega)
      generalize dig p j (d - 1 - i) = b at hb ⊢
      show (((x + (p - b) * a) % p : Nat) : Int) = _
      rw [Int.natCast_emod, Int.natCast_add, Int.natCast_mul, Int.ofNat_sub (by omega)]
      rw [show (x : Int) + ((p : Int) - (b : Int)) * (a : Int) = ((x : Int) - (a : Int) * (b : Int)) + (p : Int) * (a : Int) by rw [Int.sub_mul, Int.mul_comm (b : Int)]; omega]
      exact Int.add_mul_emod_self_left _ _ _
    · rw [if_neg h2] at hy'
      have hyx : x = y := hy'
      rw [sh_lt _ (by omega), Int.mul_zero, Int.sub_zero, ← hyx]
      have := rdn_mod D (n + 1 - d) t m
      rw [← hX] at this
      exact this.symm
theorem dv_St {p n k d j : Nat} (hp : 2 ≤ p) (D : DivOk (p : Int) 1 (mon p d j) (mon p n k)) (hd1 : 1 ≤ d) : ∀ (m t : Nat) (L : List Nat), t + m ≤ n + 1 - d → St p n k d j t L → St p n k d j (t + m) (dv p (hiD p d j) m L)
  | 0, _, _, _, h => h
  | m + 1, t, L, ht, h => by
    cases L with
    | nil => have := h.1; rw [List.length_nil] at this; omega
    | cons a L =>
      have := dv_St hp D hd1 m (t + 1) _ (by omega) (St_step hp D hd1 (by omega) h)
      rw [show t + (m + 1) = t + 1 + m by omega]
      exact this
theorem nz_mem : ∀ L : List Nat, nz L = true → ∃ (i x : Nat), L[i]? = some x ∧ x ≠ 0
  | [], h => by cases h
  | 0 :: L, h => by
    obtain ⟨i, x, hi, hx⟩ := nz_mem L h
    exact ⟨i + 1, x, by rw [List.getElem?_cons_succ]; exact hi, hx⟩
  | (x + 1) :: _, _ => ⟨0, x + 1, rfl, by omega⟩
theorem mon_DivOk {p n k d j : Nat} (hp : 2 ≤ p) : DivOk (p : Int) 1 (mon p d j) (mon p n k) :=
  ⟨by omega, mon_in hp, mon_in hp, by rw [mon_len]; omega, by rw [mon_top, Int.mul_one]; exact Int.emod_eq_of_lt (by omega) (by omega)⟩
/-- In each degree there is one. -/
theorem irr_ex {p n : Nat} (hpr : IsPr p) (hp9 : p ≤ 997) (hn1 : 1 ≤ n) (hn19 : n ≤ 19) (hpn : p ^ n ≤ 1000000) : ∃ k, k < p ^ n ∧ IrrP p (mon p n k) := by
  have hp2 := hpr.1
  rcases Nat.lt_or_ge n 2 with h1 | h1
  · obtain rfl : n = 1 := by omega
    exact ⟨0, Nat.pow_pos (by omega), by rw [mon_len]; omega, fun d a b => by rw [mon_len] at b; omega⟩
  · have h2 := hasP_all 998 wit_all p (by omega)
    rw [smallPr_of hpr] at h2
    have h3 := hasA_all 20 (by simpa using h2) n (by omega)
    have e1 : Nat.ble n 1 = false := by
      cases h : Nat.ble n 1 with
      | false => rfl
      | true => have := Nat.le_of_ble_eq_true h; omega
    rw [e1, Nat.ble_eq_true_of_le hpn] at h3
    obtain ⟨k, hk⟩ := hasW_mem witT (by simpa using h3)
    have h4 : chkW p n k = true := by
      rcases List.mem_append.1 hk with h | h
      · exact allW_all _ wit0_ok _ h
      · rcases List.mem_append.1 h with h | h
        · exact allW_all _ wit1_ok _ h
        · exact allW_all _ wit2_ok _ h
    obtain ⟨h5, h6⟩ := cond_and h4
    refine ⟨k, Nat.le_of_ble_eq_true h5, by rw [mon_len]; omega, fun d hd1 hd j hj hz => ?_⟩
    rw [mon_len] at hd
    obtain ⟨i, x, hi, hx⟩ := nz_mem _ (chkD_all _ (chkN_all _ h6 d hd1 (by omega)) j hj)
    have h7 := (dv_St hp2 (mon_DivOk hp2) hd1 (n + 1 - d) 0 _ (by omega) (St_zero p n k d j)).2 i x hi
    rw [Nat.zero_add] at h7
    have h8 := hz (n - (n + 1 - d) - i)
    unfold KOf at h8
    rw [mon_len, mon_len, show n + 1 + 1 - (d + 1) = n + 1 - d by omega] at h8
    rw [h8] at h7
    omega
end Go.Proofs.Ytmeffbooabionaa
