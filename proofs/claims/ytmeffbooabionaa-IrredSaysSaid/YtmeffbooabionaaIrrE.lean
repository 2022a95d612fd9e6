/- irred.Count and the reference's AloneMany. -/
import Derived.Test.YtmeffbooabionaaIrrC
import Derived.Test.YtmeffbooabionaaIrrF
import Derived.Test.YtmeffbooabionaaDivs1
import Derived.Test.YtmeffbooabionaaDivide
set_option linter.unusedVariables false
set_option linter.unusedSimpArgs false
namespace Go.Proofs.Ytmeffbooabionaa
open Go.RowKit

theorem n19 {p n : Nat} (hp : 2 ≤ p) (h : p ^ n ≤ 1000000) : n ≤ 19 := by
  rcases Nat.lt_or_ge 19 n with h1 | h1
  · exfalso
    have h2 : 2 ^ 20 ≤ 2 ^ n := Nat.pow_le_pow_right (by omega) h1
    have h3 : 2 ^ n ≤ p ^ n := Nat.pow_le_pow_left hp n
    have h4 : (2 : Nat) ^ 20 = 1048576 := by decide
    omega
  · exact h1
structure GsOk (p n : Nat) : Prop where
  cnt : cP p n (divs n) = ((n * amN p n : Nat) : Int)
  each : ∀ i d, (divs n)[i]? = some d → xM p n d ((divs n).take i) = ((d * amN p d : Nat) : Int) ∧ amN p d ≤ 1000000 ∧ d ≤ 19 ∧ 1 ≤ d
theorem gsOk {p n : Nat} (hp2 : 2 ≤ p) (hp : p ≤ 997) (hn : 1 ≤ n) (hpn : p ^ n ≤ 1000000) : GsOk p n := by
  have h := okM_all ⟨n, by have := n19 hp2 hpn; omega⟩ hn ⟨p, by omega⟩
  simp only [] at h
  unfold okM at h
  rw [decide_eq_true hp2, decide_eq_true hpn] at h
  simp only [Bool.and_self, Bool.not_true, Bool.false_or, Bool.and_eq_true, decide_eq_true_eq, List.all_eq_true, List.mem_range] at h
  refine ⟨h.1, fun i d hd => ?_⟩
  have hi := (List.getElem?_eq_some_iff.1 hd).1
  have h2 := h.2 i hi
  rw [show (divs n).getD i 0 = d by rw [List.getD_eq_getElem?_getD, hd]; rfl] at h2
  exact ⟨h2.1.1, h2.1.2, h2.2.1, h2.2.2⟩
theorem cP_bd (p n : Nat) (hp : ∀ d, p ^ (n / d) ≤ 1000000) : ∀ l : List Nat, -(1000000 * (l.length : Int)) ≤ cP p n l ∧ cP p n l ≤ 1000000 * (l.length : Int) := by
  intro l
  rw [← l.reverse_reverse]
  induction l.reverse with
  | nil => simp [cP]
  | cons d t ih =>
    rw [List.reverse_cons, cP_snoc, List.length_append, List.length_singleton]
    have h1 := muT_bd d
    have h2 := hp d
    have h3 : muT d = -1 ∨ muT d = 0 ∨ muT d = 1 := by omega
    generalize p ^ (n / d) = P at h2 ⊢
    generalize cP p n t.reverse = C at ih ⊢
    generalize t.reverse.length = T at ih ⊢
    rcases h3 with h | h | h <;> rw [h] <;> omega
theorem xM_bd (p n d : Nat) (hd : p ^ d ≤ 1000000) : ∀ l : List Nat, (∀ c ∈ l, c * amN p c ≤ 19000000) → -(19000000 * (l.length : Int)) ≤ xM p n d l ∧ xM p n d l ≤ 1000000 := by
  intro l
  rw [← l.reverse_reverse]
  induction l.reverse with
  | nil => intro _; simp only [xM, List.reverse_nil, List.foldl_nil, List.length_nil]; generalize p ^ d = P at hd ⊢; omega
  | cons c t ih =>
    intro hc
    rw [List.reverse_cons] at hc ⊢
    have ih' := ih fun c hc' => hc c (by simp at hc' ⊢; exact .inl hc')
    have h1 := hc c (by simp)
    rw [xM_snoc, List.length_append, List.length_singleton]
    split
    · omega
    · omega
theorem takeI {l : List Nat} {k x : Nat} (h : l[k]? = some x) : l.take (k + 1) = l.take k ++ [x] := by
  obtain ⟨hq, he⟩ := List.getElem?_eq_some_iff.1 h
  rw [List.take_succ_eq_append_getElem hq, he]
theorem natInts_getI {l : List Nat} {k x : Nat} (h : l[k]? = some x) : (natInts l)[k]? = some (.int .i64 (x : Int)) := by unfold natInts; rw [List.getElem?_map, h]; rfl
theorem divs_len (n : Nat) : (divs n).length ≤ n + 1 := by unfold divs; exact Nat.le_trans (List.length_filter_le _ _) (by simp)
set_option maxRecDepth 100000 in
set_option maxHeartbeats 4000000 in
theorem irr_Count (p n : Nat) (w : World) (hp : (Lit.int .i64 (p : Int)).wf = true) (hE : irrE p n = 0) :
    Calls Try.prog 23 #[.int .i64 p, .int .i64 n] w fun e w' => e = .returned (.tuple #[.int .i64 (amN p n : Nat), .int .i64 0]) ∧ Below w.heap.size w w' := by
  have C1 := Lib.hid (irr_check p n w hp)
  rw [hE] at C1
  obtain ⟨a1, a2, a3, a4, a5, a6⟩ := irrE_zero hE
  rw [Int.toNat_natCast, Int.toNat_natCast] at a6
  have hp2 : 2 ≤ p := by omega
  have hp9 : p ≤ 997 := by omega
  have hn1 : 1 ≤ n := by omega
  have hn19 := n19 hp2 a6
  have HG := Lib.hid (gsOk hp2 hp9 hn1 a6)
  have CD := Lib.hid (fun W => divide_Divisors n W hn1 (by omega))
  unfold DivsPost at CD
  have hL := divs_len n
  have HPW : Hid (∀ d, p ^ (n / d) ≤ 1000000) := fun d => Nat.le_trans (pw_mono (by omega) (Nat.div_le_self n d)) a6
  have HCB := Lib.hid (fun l => cP_bd p n HPW.out l)
  have hamn : amN p n ≤ 1000000 := by
    have h := HCB.out (divs n)
    rw [HG.out.cnt] at h
    have h2 : n * amN p n ≤ 1000000 * (n + 1) := by
      have : ((n * amN p n : Nat) : Int) ≤ 1000000 * ((divs n).length : Int) := h.2
      omega
    obtain ⟨i, hi⟩ := List.getElem?_of_mem ((mem_divs hn1).2 ⟨hn1, Nat.dvd_refl n⟩)
    exact (HG.out.each i n hi).2.1
  obtain ⟨X, hX⟩ : ∃ X, divs n = X := ⟨_, rfl⟩
  have hXm : Hid (∀ d ∈ X, 1 ≤ d ∧ d ≤ n) := fun d hd => by
    rw [← hX] at hd
    have := (mem_divs hn1).1 hd
    exact ⟨this.1, Nat.le_of_dvd hn1 this.2⟩
  have hCN := HG.out.cnt
  rw [hX] at CD hL hCN
  have HCN := Lib.hid hCN
  obtain ⟨D, hD⟩ : ∃ D, X.length = D := ⟨_, rfl⟩
  have HD := Lib.hid hD
  rw [hD] at CD hL
  obtain ⟨a, ha⟩ : ∃ a, amN p n = a := ⟨_, rfl⟩
  rw [ha] at HCN hamn ⊢
  clear hE a1 a2 a3 a4 a5 a6 hX hD ha hCN
  go_enter Try.func23, Try.ntmps23
  go_wp2_with (first
    | (go_at_call 47; (refine C1.out.mono ?_); rintro e w1 ⟨rfl, rfl⟩)
    | (go_at_call 49; (refine (CD.out _).mono ?_); rintro e w2 ⟨G, rfl, hRG, hb2⟩)
    | fail)
  have HR := Lib.hid hRG
  have HB := Lib.hid hb2
  obtain ⟨w0, rfl⟩ : ∃ w0, w0 = w1 := ⟨_, rfl⟩
  clear hRG hb2
  go_loopw [9, 27] (fun vs vj wr => ∃ (j : Nat) (s : Int), vs = .int .i64 s ∧ vj = .int .i64 j ∧ j ≤ D ∧ Hid (cP p n (X.take j) = s) ∧ Hid (Below w2.heap.size w2 wr)) (fun _ vj _ => D - (intOf vj).toNat)
  case atStart => exact ⟨0, 0, rfl, rfl, Nat.zero_le _, rfl, Below.refl _ _⟩
  case round =>
    obtain ⟨j, s, rfl, rfl, hj, hS, hB⟩ := hrel
    have hsb := HCB.out (X.take j)
    rw [hS.out, List.length_take, HD.out, Nat.min_eq_left hj] at hsb
    by_cases hjD : j < D
    · obtain ⟨d, hd⟩ : ∃ d, X[j]? = some d := ⟨X[j]'(by rw [HD.out]; exact hjD), List.getElem?_eq_getElem _⟩
      obtain ⟨hd1, hdn⟩ := hXm.out d (List.mem_of_getElem? hd)
      have cj := reads_cell0 (HR.out.below hB.out) (natInts_getI hd)
      have CM := Lib.hid (fun W => divide_Moebius d W hd1 (by omega))
      rw [mu_eq d hd1 (by omega)] at CM
      obtain ⟨q, hq⟩ : ∃ q, n / d = q := ⟨_, rfl⟩
      have eq1 : Int.tdiv (n : Int) (d : Int) = (q : Int) := by rw [← hq]; rfl
      have eq2 : (n : Int) / (d : Int) = (q : Int) := by rw [← hq]; rfl
      have hd0 : ¬ ((d : Int) = 0) := by omega
      have hqn : q ≤ 19 := by rw [← hq]; exact Nat.le_trans (Nat.div_le_self n d) hn19
      have CP := Lib.hid (fun W => irr_power p q W hp2 hp9 (by omega))
      have hP6 := HPW.out d
      rw [hq] at hP6
      obtain ⟨P, hP⟩ : ∃ P, p ^ q = P := ⟨_, rfl⟩
      have HP := Lib.hid hP
      rw [hP] at hP6
      have hT : cP p n (X.take (j + 1)) = s + muT d * (P : Int) := by rw [takeI hd, cP_snoc, hS.out, hq, hP]
      obtain ⟨t, ht⟩ : ∃ t, muT d = t := ⟨_, rfl⟩
      have htb := muT_bd d
      rw [ht] at CM hT htb
      obtain ⟨u, hu⟩ : ∃ u : Int, t * (P : Int) = u := ⟨_, rfl⟩
      have hub : -1000000 ≤ u ∧ u ≤ 1000000 := by
        have h3 : t = -1 ∨ t = 0 ∨ t = 1 := by omega
        rcases h3 with h | h | h <;> rw [h] at hu <;> omega
      rw [hu] at hT
      have HT := Lib.hid hT
      have hjz : (j : Int) < (D : Int) := by omega
      clear hd hq hP hT ht
      go_wp2_with (first
        | (go_at_call 50; (refine (CM.out _).mono ?_); rintro e w3 ⟨rfl, hb3⟩)
        | (go_at_call 45; (refine (CP.out _).mono ?_); rintro e w4 ⟨⟨v, rfl, hv⟩, rfl⟩; obtain rfl : v = P := (hv.1 (by rw [HP.out]; exact hP6)).trans HP.out; clear hv)
        | fail)
      go_roundw
      case rel => exact ⟨j + 1, s + u, rfl, by go_num, by omega, HT, hB.out.trans (hb3.mono hB.out.size)⟩
      case measure => simp [intOf]; omega
    · obtain rfl : D = j := by omega
      have hT : X.take D = X := List.take_of_length_le (by rw [HD.out]; exact Nat.le_refl _)
      rw [hT, HCN.out] at hS
      obtain ⟨A, hA⟩ : ∃ A, n * a = A := ⟨_, rfl⟩
      rw [hA] at hS
      have hSA : s = (A : Int) := hS.out.symm
      subst hSA
      have hAq : A / n = a := by rw [← hA]; exact Nat.mul_div_cancel_left a hn1
      have eq1 : Int.tdiv (A : Int) (n : Int) = (a : Int) := by rw [← hAq]; rfl
      have eq2 : (A : Int) / (n : Int) = (a : Int) := by rw [← hAq]; rfl
      have hn0 : ¬ ((n : Int) = 0) := by omega
      clear hT hA hAq hS
      go_wp2_with fail
      go_ret2
      exact ⟨rfl, HB.out.trans (hB.out.mono HB.out.size)⟩
theorem irr_Count_bad (p n : Int) (w : World) (hp : (Lit.int .i64 p).wf = true) (hE : irrE p n ≠ 0) :
    Calls Try.prog 23 #[.int .i64 p, .int .i64 n] w fun e w' => e = .returned (.tuple #[.int .i64 0, .int .i64 (irrE p n)]) ∧ w' = w := by
  have C1 := Lib.hid (irr_check p n w hp)
  obtain ⟨E, hEE⟩ : ∃ E, irrE p n = E := ⟨_, rfl⟩
  rw [hEE] at C1 hE ⊢
  have h0b : (E == 0) = false := by simp; omega
  have h0c : (E != 0) = true := by simp; omega
  clear hEE
  go_enter Try.func23, Try.ntmps23
  go_wp2_with (first
    | (go_at_call 47; (refine C1.out.mono ?_); rintro e w1 ⟨rfl, rfl⟩)
    | fail)
  go_ret2
  exact ⟨rfl, rfl⟩
end Go.Proofs.Ytmeffbooabionaa
