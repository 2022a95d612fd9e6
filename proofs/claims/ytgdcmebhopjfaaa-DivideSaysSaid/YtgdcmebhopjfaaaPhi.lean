/- wholeref.PhiOf: each divisor's value is what its sum leaves when the smaller divisors' values are taken off. -/
import Derived.Test.YtgdcmebhopjfaaaRows
import Derived.Test.YtgdcmebhopjfaaaDivisors
import Derived.Test.YtgdcmebhopjfaaaDivsN
import Derived.Test.YtgdcmebhopjfaaaFormK
namespace Go.Proofs.Ytgdcmebhopjfaaa
open Go.RowKit

/-- What the row holds when i values are told, and of the next one k smaller ones are taken off. -/
def stP (f : Nat → Int) (n i : Nat) (j : Nat) : Value := .int .i64 (if j < i then f ((divs n)[j]?.getD 0) else 0)
def stQ (f g : Nat → Int) (n i d k : Nat) (j : Nat) : Value := if j = i then .int .i64 (g d - accV f n d k) else stP f n i j
theorem stQ_end {f g : Nat → Int} {n i d : Nat} (hn : 1 ≤ n) (h : (divs n)[i]? = some d) (hs : sd f d = g d) (j : Nat) : stQ f g n i d i j = stP f n (i + 1) j := by
  unfold stQ
  by_cases hj : j = i
  · subst hj
    rw [if_pos rfl, ← hs, accV_end hn h]
    unfold stP
    rw [if_pos (by omega), h]
    rfl
  · rw [if_neg hj]
    unfold stP
    by_cases h1 : j < i
    · rw [if_pos h1, if_pos (by omega)]
    · rw [if_neg h1, if_neg (by omega)]
theorem stQ_skip {f g : Nat → Int} {n i d k c : Nat} (h : (divs n)[k]? = some c) (hc : ¬ c ∣ d) (j : Nat) : stQ f g n i d k j = stQ f g n i d (k + 1) j := by
  unfold stQ
  rw [accV_succ f h, if_neg hc, Int.add_zero]
theorem stQ_step {f g : Nat → Int} {n i d k c : Nat} (h : (divs n)[k]? = some c) (hc : c ∣ d) {a y : Int} (ha : accV f n d k = a) (hy : f c = y) (j : Nat) : (if j = i then Value.int .i64 (g d - a - y) else stQ f g n i d k j) = stQ f g n i d (k + 1) j := by
  unfold stQ
  rw [accV_succ f h, if_pos hc, ha, hy]
  by_cases hj : j = i
  · rw [if_pos hj, if_pos hj]; congr 1; omega
  · rw [if_neg hj, if_neg hj, if_neg hj]
theorem natInts_get {l : List Nat} {k c : Nat} (h : l[k]? = some c) : (natInts l)[k]? = some (.int .i64 c) := by
  unfold natInts; rw [List.getElem?_map, h]; rfl
theorem natInts_length (l : List Nat) : (natInts l).length = l.length := by simp [natInts]
theorem natInts_ne {l : List Nat} (h : 0 < l.length) : natInts l ≠ [] := fun e => by
  have h2 := natInts_length l
  rw [e] at h2
  simp at h2
  omega
set_option maxRecDepth 100000 in
set_option maxHeartbeats 4000000 in
theorem ref_PhiOf (n : Nat) (w : World) (h1 : 1 ≤ n) (hn : n ≤ 1000000) :
    Calls Try.prog 27 #[.int .i64 n] w fun e w' => e = .returned (.int .i64 (phi n)) ∧ Below w.heap.size w w' := by
  have C1 := Lib.hid (ref_DivisorsOf n w h1 hn)
  have hN1 := divs_length n
  have hN2 := divs_pos h1
  obtain ⟨N, hN⟩ : ∃ N, (divs n).length = N := ⟨_, rfl⟩
  have HF : Hid (∀ c ∈ divs n, -1000000 ≤ phi c ∧ phi c ≤ 1000000) := Lib.hid fun c hc => by
    have h2 := (mem_divs h1).1 hc
    have h3 := Nat.le_of_dvd (by omega) h2.2
    have h4 := phi_bd h2.1
    omega
  have HNN := Lib.hid hN
  rw [hN] at hN1 hN2
  clear hN
  go_enter Try.func27, Try.ntmps27
  go_wp2_with (first | (go_at_call 26; refine C1.out.mono ?_; rintro e w1 ⟨v1, rfl, hown1, hb1⟩; obtain ⟨gd, cd, rfl, hO1⟩ := own_formK hown1 (natInts_ne (by rw [HNN.out]; exact hN2)) HNN.out) | (at_make; refine make_own rfl _ _ 22 rfl w.heap.size 3 _ 8 Try.underlying22 intInfo rfl _ _ _ _ N (by rfl) (by rfl) rfl rfl (by omega) (by unfold maxLen; omega) hb1.size ?_; intro w2 hown hg2))
  obtain ⟨ad, kd, hv, hRd, _, k1, k2⟩ := own_dataK hO1
  cases hv
  have hRD : Hid (Reads w1 (some ⟨gd, 0, none⟩) (natInts (divs n))) := hRd
  obtain ⟨G, hG⟩ : ∃ G, w1.heap.size = G := ⟨_, rfl⟩
  rw [hG] at hown ⊢
  have hGw : w.heap.size ≤ G := by have := hb1.size; omega
  have hB1 : Hid (Below w.heap.size w w1) := hb1
  have HB2 : Hid (Below G w1 w2) := by rw [← hG]; exact below_of_grown hg2 (Nat.le_refl _) (by intro k hk; cases hk)
  have HO0 : Hid (Own w2 w.heap.size 3 G N N (stP phi n 0)) := Lib.hid (hown.congr fun j _ => by unfold stP; rw [if_neg (by omega)])
  have HG := Lib.hid hG
  have hm : N ≤ 1000001 := by omega
  clear hRd hO1 hown1 hown hg2 hb1 C1 hG
  go_wp2_with fail
  go_loopw [16] (fun vi wr => ∃ i : Nat, vi = .int .i64 i ∧ i ≤ N ∧ Hid (Own wr w.heap.size 3 G N N (stP phi n i)) ∧ Hid (Below G w1 wr)) (fun vi _ => N - (intOf vi).toNat)
  case atStart => exact ⟨0, rfl, by omega, HO0, HB2⟩
  case round =>
    obtain ⟨i, rfl, hi, hO, hb⟩ := hrel
    by_cases hiN : i < N
    · obtain ⟨d, hd⟩ : ∃ d, (divs n)[i]? = some d := ⟨_, List.getElem?_eq_getElem (show i < (divs n).length by rw [HNN.out]; exact hiN)⟩
      have hdm := (mem_divs h1).1 (List.mem_of_getElem? hd)
      have hdn := Nat.le_of_dvd (by omega) hdm.2
      have c1 := reads_cell0 (hRD.out.below (by rw [HG.out]; exact hb.out)) (natInts_get hd)
      have i0 : (0 : Int) ≤ (i : Int) := by omega
      have i1 : (i : Int) < (N : Int) := by omega
      have i2 : (i : Int) ≤ (N : Int) := by omega
      have i3 : (i : Int) ≤ (cd : Int) := by omega
      have i4 : i ≤ cd := by omega
      have x1 := hO.out.cell hiN
      have f1 := hO.out.frozen i
      have st := hO.out.store i (.int .i64 d)
      have hO2 : Hid (Own (wr.setCell ⟨G, i, none⟩ (.int .i64 d)) w.heap.size 3 G N N (stQ phi (fun d => (d : Int)) n i d 0)) := Lib.hid (st.1.congr fun j _ => by
        unfold stQ
        by_cases hj : j = i
        · rw [if_pos hj, if_pos hj, accV_zero, Int.sub_zero]
        · rw [if_neg hj, if_neg hj])
      have hB3 : Hid (Below G w1 (wr.setCell ⟨G, i, none⟩ (.int .i64 d))) := Lib.hid (hb.out.grown st.2 (by rw [← HG.out]; exact hb.out.size) (fun k hk => by cases hk; exact Nat.le_refl _))
      have HD := Lib.hid hd
      have hd1 := hdm.1
      have hmi : (i : Int) ≤ 1000001 := by omega
      clear st hd hdm 
      go_wp2_with fail
      go_loopw [29] (fun vk wr2 => ∃ k : Nat, vk = .int .i64 k ∧ k ≤ i ∧ Hid (Own wr2 w.heap.size 3 G N N (stQ phi (fun d => (d : Int)) n i d k)) ∧ Hid (Below G w1 wr2)) (fun vk _ => i - (intOf vk).toNat)
      case atStart => exact ⟨0, rfl, by omega, hO2, hB3⟩
      case round =>
        obtain ⟨k, rfl, hk, hOk, hbk⟩ := hrel
        by_cases hki : k < i
        · obtain ⟨c, hc⟩ : ∃ c, (divs n)[k]? = some c := ⟨_, List.getElem?_eq_getElem (show k < (divs n).length by rw [HNN.out]; omega)⟩
          have hc1 := ((mem_divs h1).1 (List.mem_of_getElem? hc)).1
          have hcn := Nat.le_of_dvd (by omega) ((mem_divs h1).1 (List.mem_of_getElem? hc)).2
          have hcf := HF.out c (List.mem_of_getElem? hc)
          have hab := accV_bd phi 1000000 (d := d) HF.out (by omega) k
          have c2 := reads_cell0 (hRD.out.below (by rw [HG.out]; exact hbk.out)) (natInts_get hc)
          have e0 : (0 : Int) ≤ (k : Int) := by omega
          have e1 : (k : Int) < (i : Int) := by omega
          have e2 : (k : Int) < (N : Int) := by omega
          have hc0 : ¬ (c : Int) = 0 := by omega
          have hc0' : ¬ c = 0 := by omega
          have hrem : 0 ≤ (d : Int) % (c : Int) ∧ (d : Int) % (c : Int) ≤ d := ⟨Int.emod_nonneg _ hc0, by rw [← Int.natCast_emod]; exact_mod_cast Nat.mod_le d c⟩
          have wrm : IntKind.i64.wrap ((d : Int) % (c : Int)) = (d : Int) % (c : Int) := IntWalk.i64_in _ (by omega)
          have htm : Int.tmod (d : Int) (c : Int) = (d : Int) % (c : Int) := Int.tmod_eq_emod_of_nonneg (by omega)
          have HC := Lib.hid hc
          by_cases hdv : c ∣ d
          · have ht := dvd_beq d c hdv
            obtain ⟨a, ha⟩ : ∃ a, accV phi n d k = a := ⟨_, rfl⟩
            obtain ⟨y, hy⟩ : ∃ y, phi c = y := ⟨_, rfl⟩
            obtain ⟨b, hbb⟩ : ∃ b, (d : Int) = b := ⟨_, rfl⟩
            have hbd : -1000000 ≤ b ∧ b ≤ 1000000 := by rw [← hbb]; omega
            rw [ha] at hab
            rw [hy] at hcf
            have x2 := hOk.out.cell hiN
            rw [show stQ phi (fun d => (d : Int)) n i d k i = .int .i64 (b - a) by unfold stQ; rw [if_pos rfl, ha]; rw [← hbb]] at x2
            have x3 := hOk.out.cell (show k < N by omega)
            rw [show stQ phi (fun d => (d : Int)) n i d k k = .int .i64 y by unfold stQ stP; rw [if_neg (by omega), if_pos hki, hc, ← hy]; rfl] at x3
            have f2 := hOk.out.frozen i
            have wv : IntKind.i64.wrap (b - a - y) = b - a - y := IntWalk.i64_in _ (by omega)
            have st := hOk.out.store i (.int .i64 (b - a - y))
            have hO5 : Hid (Own (wr.setCell ⟨G, i, none⟩ (.int .i64 (b - a - y))) w.heap.size 3 G N N (stQ phi (fun d => (d : Int)) n i d (k + 1))) := Lib.hid (st.1.congr fun j _ => by rw [← hbb]; exact stQ_step HC.out hdv ha hy j)
            have hB5 : Hid (Below G w1 (wr.setCell ⟨G, i, none⟩ (.int .i64 (b - a - y)))) := Lib.hid (hbk.out.grown st.2 (by rw [← HG.out]; exact hbk.out.size) (fun k hk => by cases hk; exact Nat.le_refl _))
            clear hc hdv ha hy hbb st hab hcf hbd
            go_wp2_with fail
            go_region
            go_wp2_with fail
            go_roundw
            case rel => exact ⟨k + 1, by go_num, by omega, by exact hO5.out, ⟨hB5.out.os, hB5.out.tape, hB5.out.output, hB5.out.size, hB5.out.block⟩⟩
            case measure => simp [intOf]; omega
          · have ht := ndvd_beq d c hdv
            have hO5 := Lib.hid (hOk.out.congr (f' := stQ phi (fun d => (d : Int)) n i d (k + 1)) fun j _ => stQ_skip HC.out hdv j)
            clear hc hdv hab hcf
            go_wp2_with fail
            go_roundw
            case rel => exact ⟨k + 1, by go_num, by omega, hO5, hbk⟩
            case measure => simp [intOf]; omega
        · have hO6 : Hid (Own wr w.heap.size 3 G N N (stP phi n (i + 1))) := Lib.hid (hOk.out.congr fun j _ => by
            rw [show k = i by omega]
            exact stQ_end h1 HD.out (sd_phi hd1) j)
          go_wp2_with fail
          go_roundw
          case rel => exact ⟨i + 1, by go_num, by omega, hO6, hbk⟩
          case measure => simp [intOf]; omega
    · obtain ⟨I, hI⟩ : ∃ I, N - 1 = I := ⟨_, rfl⟩
      have hIN : I < N := by omega
      have hIi : I < i := by omega
      obtain ⟨d, hd⟩ : ∃ d, (divs n)[I]? = some d := ⟨_, List.getElem?_eq_getElem (show I < (divs n).length by rw [HNN.out]; exact hIN)⟩
      have hdn := divs_last h1 hd (by rw [HNN.out]; omega)
      subst hdn
      have x1 := hO.out.cell hIN
      rw [show stP phi d i I = .int .i64 (phi d) by unfold stP; rw [if_pos hIi, hd]; rfl] at x1
      have w1i : IntKind.i64.wrap ((N : Int) - 1) = (I : Int) := by rw [show (N : Int) - 1 = (I : Int) by omega]; exact IntWalk.i64_in _ (by omega)
      have j0 : (0 : Int) ≤ (I : Int) := by omega
      have j1 : (I : Int) < (N : Int) := by omega
      have hfin : Hid (Below w.heap.size w wr) := hB1.out.trans (hb.out.mono hGw)
      clear hd hI
      go_wp2_with fail
      go_ret
      exact ⟨rfl, hfin.out⟩
end Go.Proofs.Ytgdcmebhopjfaaa
