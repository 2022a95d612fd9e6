/- The reference's AloneMany. -/
import Derived.Test.YtmeffbooabionaaIrrE
import Derived.Test.YtmeffbooabionaaPhi
import Derived.Test.YtmeffbooabionaaFormK
set_option linter.unusedVariables false
set_option linter.unusedSimpArgs false
namespace Go.Proofs.Ytmeffbooabionaa
open Go.RowKit

theorem xM_all {p n : Nat} (HG : GsOk p n) (hp : 1 ≤ p) (hn : 1 ≤ n) (hn19 : n ≤ 19) (hpn : p ^ n ≤ 1000000) {i d : Nat} (hd : (divs n)[i]? = some d) (k : Nat) :
    -400000000 ≤ xM p n d ((divs n).take k) ∧ xM p n d ((divs n).take k) ≤ 1000000 := by
  have h1 := (mem_divs hn).1 (List.mem_of_getElem? hd)
  have h2 : p ^ d ≤ 1000000 := Nat.le_trans (pw_mono hp (Nat.le_of_dvd hn h1.2)) hpn
  have h3 := xM_bd p n d h2 ((divs n).take k) fun c hc => by
    obtain ⟨j, hj⟩ := List.getElem?_of_mem (List.mem_of_mem_take hc)
    obtain ⟨_, a, b, _⟩ := HG.each j c hj
    exact Nat.le_trans (Nat.mul_le_mul b a) (by omega)
  have h4 : ((divs n).take k).length ≤ 20 := by
    have := divs_len n
    rw [List.length_take]; omega
  omega
def amZ (p : Nat) (d : Nat) : Int := ((amN p d : Nat) : Int)
set_option maxRecDepth 100000 in
set_option maxHeartbeats 4000000 in
theorem ref_AloneMany (p n : Nat) (w : World) (hp2 : 2 ≤ p) (hp9 : p ≤ 997) (hn1 : 1 ≤ n) (hpn : p ^ n ≤ 1000000) :
    Calls Try.prog 28 #[.int .i64 p, .int .i64 n] w fun e w' => e = .returned (.int .i64 (amN p n : Nat)) ∧ Below w.heap.size w w' := by
  have hn19 := n19 hp2 hpn
  have HG := Lib.hid (gsOk hp2 hp9 hn1 hpn)
  have C1 := Lib.hid (ref_DivisorsOf n w hn1 (by omega))
  have hN1 := divs_len n
  have hN2 := divs_pos hn1
  obtain ⟨N, hN⟩ : ∃ N, (divs n).length = N := ⟨_, rfl⟩
  have HXB : Hid (∀ i d, (divs n)[i]? = some d → ∀ k, -400000000 ≤ xM p n d ((divs n).take k) ∧ xM p n d ((divs n).take k) ≤ 1000000) :=
    Lib.hid fun i d hd k => xM_all HG.out (by omega) hn1 hn19 hpn hd k
  have HPW : Hid (∀ d j, d ≤ n → j ≤ d → p ^ j ≤ 1000000) := fun d j h1 h2 => Nat.le_trans (pw_mono (by omega) (Nat.le_trans h2 h1)) hpn
  have HNN := Lib.hid hN
  rw [hN] at hN1 hN2
  clear hN hpn
  go_enter Try.func28, Try.ntmps28
  go_wp2_with (first | (go_at_call 55; refine C1.out.mono ?_; rintro e w1 ⟨v1, rfl, hown1, hb1⟩; obtain ⟨gd, cd, rfl, hO1⟩ := own_formK hown1 (natInts_ne (by rw [HNN.out]; exact hN2)) HNN.out) | (at_make; refine make_own rfl _ _ 32 rfl w.heap.size 3 _ 8 Try.underlying32 intInfo rfl _ _ _ _ N (by rfl) (by rfl) rfl rfl (by omega) (by unfold maxLen; omega) hb1.size ?_; intro w2 hown hg2))
  obtain ⟨ad, kd, hv, hRd, _, k1, k2⟩ := own_dataK hO1
  cases hv
  have hRD : Hid (Reads w1 (some ⟨gd, 0, none⟩) (natInts (divs n))) := hRd
  obtain ⟨G, hG⟩ : ∃ G, w1.heap.size = G := ⟨_, rfl⟩
  rw [hG] at hown ⊢
  have hGw : w.heap.size ≤ G := by have := hb1.size; omega
  have hB1 : Hid (Below w.heap.size w w1) := hb1
  have HB2 : Hid (Below G w1 w2) := by rw [← hG]; exact below_of_grown hg2 (Nat.le_refl _) (by intro k hk; cases hk)
  have HO0 : Hid (Own w2 w.heap.size 3 G N N (stP (amZ p) n 0)) := Lib.hid (hown.congr fun j _ => by unfold stP; rw [if_neg (by omega)])
  have HG' := Lib.hid hG
  have hm : N ≤ 20 := by omega
  clear hRd hO1 hown1 hown hg2 hb1 C1 hG
  go_wp2_with fail
  go_loopw [19] (fun vi wr => ∃ i : Nat, vi = .int .i64 i ∧ i ≤ N ∧ Hid (Own wr w.heap.size 3 G N N (stP (amZ p) n i)) ∧ Hid (Below G w1 wr)) (fun vi _ => N - (intOf vi).toNat)
  case atStart => exact ⟨0, rfl, by omega, HO0, HB2⟩
  case round =>
    obtain ⟨i, rfl, hi, hO, hb⟩ := hrel
    by_cases hiN : i < N
    · obtain ⟨d, hd⟩ : ∃ d, (divs n)[i]? = some d := ⟨_, List.getElem?_eq_getElem (show i < (divs n).length by rw [HNN.out]; exact hiN)⟩
      have hdm := (mem_divs hn1).1 (List.mem_of_getElem? hd)
      have hdn := Nat.le_of_dvd (by omega) hdm.2
      have c1 := reads_cell0 (hRD.out.below (by rw [HG'.out]; exact hb.out)) (natInts_get hd)
      have i0 : (0 : Int) ≤ (i : Int) := by omega
      have i1 : (i : Int) < (N : Int) := by omega
      have i2 : (i : Int) ≤ (N : Int) := by omega
      have i3 : (i : Int) ≤ (cd : Int) := by omega
      have i4 : i ≤ cd := by omega
      have HD := Lib.hid hd
      have hd1 := hdm.1
      have hmi : (i : Int) ≤ 20 := by omega
      clear hd hdm
      go_wp2_with fail
      go_loopw [9, 25] (fun vx vj wq => ∃ (j v : Nat), vx = .int .i64 v ∧ vj = .int .i64 j ∧ j ≤ d ∧ v ≤ 1000000 ∧ Hid (p ^ j = v) ∧ wr = wq) (fun _ vj _ => d - (intOf vj).toNat)
      case atStart => exact ⟨0, 1, rfl, rfl, Nat.zero_le _, by decide, rfl, rfl⟩
      case round =>
        obtain ⟨j, v, rfl, rfl, hj, hv, hP, rfl⟩ := hrel
        by_cases hjd : j < d
        · obtain ⟨u, hu⟩ : ∃ u, v * p = u := ⟨_, rfl⟩
          have eu : (v : Int) * (p : Int) = (u : Int) := by rw [← hu, Int.natCast_mul]
          have hP2 : Hid (p ^ (j + 1) = u) := by show _ = _; rw [Nat.pow_succ, hP.out, hu]
          have hul : u ≤ 1000000 := by have := HPW.out d (j + 1) hdn hjd; rw [hP2.out] at this; exact this
          clear hu
          go_wp2_with fail
          go_roundw
          case rel => exact ⟨j + 1, u, rfl, by go_num, by omega, hul, hP2, trivial⟩
          case measure => simp [intOf]; omega
        · obtain rfl : d = j := by omega
          have HX0 : Hid (xM p n d ((divs n).take 0) = ((v : Nat) : Int)) := by show _ = _; rw [List.take_zero, ← hP.out]; rfl
          go_wp2_with fail
          go_loopw [9, 35] (fun vx vk w3 => ∃ (k : Nat) (x : Int), vx = .int .i64 x ∧ vk = .int .i64 k ∧ k ≤ i ∧ Hid (xM p n d ((divs n).take k) = x) ∧ wr = w3) (fun _ vk _ => i - (intOf vk).toNat)
          case atStart => exact ⟨0, (v : Int), rfl, rfl, Nat.zero_le _, HX0, rfl⟩
          case round =>
            obtain ⟨k, x, rfl, rfl, hk, hX, rfl⟩ := hrel
            have hxb := HXB.out i d HD.out k
            rw [hX.out] at hxb
            by_cases hki : k < i
            · obtain ⟨c, hc⟩ : ∃ c, (divs n)[k]? = some c := ⟨_, List.getElem?_eq_getElem (show k < (divs n).length by rw [HNN.out]; omega)⟩
              obtain ⟨_, ham, hc19, hc1⟩ := HG.out.each k c hc
              have c2 := reads_cell0 (hRD.out.below (by rw [HG'.out]; exact hb.out)) (natInts_get hc)
              have e0 : (0 : Int) ≤ (k : Int) := by omega
              have e1 : (k : Int) < (i : Int) := by omega
              have e2 : (k : Int) < (N : Int) := by omega
              have hc0 : ¬ (c : Int) = 0 := by omega
              have hc0' : ¬ c = 0 := by omega
              obtain ⟨a, ha⟩ : ∃ a, amN p c = a := ⟨_, rfl⟩
              rw [ha] at ham
              have hT := takeI hc
              have hX2 : xM p n d ((divs n).take (k + 1)) = if d % c = 0 then x - ((c * a : Nat) : Int) else x := by rw [hT, xM_snoc, hX.out, ha]
              have hxb2 := HXB.out i d HD.out (k + 1)
              rw [hX2] at hxb2
              have x3 := hO.out.cell (show k < N by omega)
              rw [show stP (amZ p) n i k = .int .i64 (a : Int) by unfold stP; rw [if_pos hki, hc]; show Value.int .i64 (amZ p c) = _; unfold amZ; rw [ha]] at x3
              obtain ⟨m, hmm⟩ : ∃ m, c * a = m := ⟨_, rfl⟩
              have emm : (c : Int) * (a : Int) = (m : Int) := by rw [← hmm, Int.natCast_mul]
              have hmb : m ≤ 19000000 := by rw [← hmm]; exact Nat.le_trans (Nat.mul_le_mul hc19 ham) (by omega)
              rw [hmm] at hX2 hxb2
              obtain ⟨r, hr⟩ : ∃ r, d % c = r := ⟨_, rfl⟩
              have er1 : Int.tmod (d : Int) (c : Int) = (r : Int) := by rw [← hr]; rfl
              have er2 : (d : Int) % (c : Int) = (r : Int) := by rw [← hr]; rfl
              have hrb : r ≤ 19 := by have := Nat.mod_lt d (show 0 < c by omega); omega
              rw [hr] at hX2 hxb2
              by_cases hr0 : r = 0
              · rw [if_pos hr0] at hX2 hxb2
                subst hr0
                have HX2 := Lib.hid hX2
                clear hc ha hT hX2 hmm hr
                go_wp2_with fail
                go_roundw
                case rel => exact ⟨k + 1, x - (m : Int), rfl, by go_num, by omega, HX2, trivial⟩
                case measure => simp [intOf]; omega
              · rw [if_neg hr0] at hX2 hxb2
                have HX2 := Lib.hid hX2
                have hr1 : ((r : Int) == 0) = false := by simp; omega
                have hr2 : ¬ (r : Int) = 0 := by omega
                clear hc ha hT hX2 hmm hr
                go_wp2_with fail
                go_roundw
                case rel => exact ⟨k + 1, x, rfl, by go_num, by omega, HX2, trivial⟩
                case measure => simp [intOf]; omega
            · obtain rfl : i = k := by omega
              obtain ⟨hxe, ham, hd19, _⟩ := HG.out.each i d HD.out
              obtain ⟨a, ha⟩ : ∃ a, amN p d = a := ⟨_, rfl⟩
              rw [ha] at hxe ham
              obtain ⟨m, hmm⟩ : ∃ m, d * a = m := ⟨_, rfl⟩
              have hmb : m ≤ 19000000 := by rw [← hmm]; exact Nat.le_trans (Nat.mul_le_mul hd19 ham) (by omega)
              rw [hmm] at hxe
              have hxm : x = (m : Int) := hX.out.symm.trans hxe
              subst hxm
              have hq : m / d = a := by rw [← hmm]; exact Nat.mul_div_cancel_left a (by omega)
              have eq1 : Int.tdiv (m : Int) (d : Int) = (a : Int) := by rw [← hq]; rfl
              have eq2 : (m : Int) / (d : Int) = (a : Int) := by rw [← hq]; rfl
              have hd0 : ¬ ((d : Int) = 0) := by omega
              have x1 := hO.out.cell hiN
              have f1 := hO.out.frozen i
              have st := hO.out.store i (.int .i64 (a : Int))
              have hO2 : Hid (Own (wr.setCell ⟨G, i, none⟩ (.int .i64 (a : Int))) w.heap.size 3 G N N (stP (amZ p) n (i + 1))) := Lib.hid (st.1.congr fun j _ => by
                unfold stP
                by_cases hj : j = i
                · rw [if_pos hj, hj, if_pos (by omega), HD.out]; show _ = Value.int .i64 (amZ p d); unfold amZ; rw [ha]
                · rw [if_neg hj]
                  by_cases hj2 : j < i
                  · rw [if_pos hj2, if_pos (by omega)]
                  · rw [if_neg hj2, if_neg (by omega)])
              have hB3 : Hid (Below G w1 (wr.setCell ⟨G, i, none⟩ (.int .i64 (a : Int)))) := Lib.hid (hb.out.grown st.2 (by rw [← HG'.out]; exact hb.out.size) (fun k hk => by cases hk; exact Nat.le_refl _))
              clear st ha hmm hq hxe
              go_wp2_with fail
              go_roundw
              case rel => exact ⟨i + 1, by go_num, by omega, hO2, hB3⟩
              case measure => simp [intOf]; omega
    · obtain ⟨I, hI⟩ : ∃ I, N - 1 = I := ⟨_, rfl⟩
      have hIN : I < N := by omega
      have hIi : I < i := by omega
      obtain ⟨d, hd⟩ : ∃ d, (divs n)[I]? = some d := ⟨_, List.getElem?_eq_getElem (show I < (divs n).length by rw [HNN.out]; exact hIN)⟩
      have hdn := divs_last hn1 hd (by rw [HNN.out]; omega)
      subst hdn
      have x1 := hO.out.cell hIN
      rw [show stP (amZ p) d i I = .int .i64 (amN p d : Nat) by unfold stP; rw [if_pos hIi, hd]; rfl] at x1
      have w1i : IntKind.i64.wrap ((N : Int) - 1) = (I : Int) := by rw [show (N : Int) - 1 = (I : Int) by omega]; exact IntWalk.i64_in _ (by omega)
      have j0 : (0 : Int) ≤ (I : Int) := by omega
      have j1 : (I : Int) < (N : Int) := by omega
      have hfin : Hid (Below w.heap.size w wr) := hB1.out.trans (hb.out.mono hGw)
      clear hd hI
      go_wp2_with fail
      go_ret
      exact ⟨rfl, hfin.out⟩
end Go.Proofs.Ytmeffbooabionaa
