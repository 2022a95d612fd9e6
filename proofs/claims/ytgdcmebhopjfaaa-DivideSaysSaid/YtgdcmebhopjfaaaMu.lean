/- wholeref.MoebiusOf: the same recursion, begun with 1 at 1. -/
import Derived.Test.YtgdcmebhopjfaaaPhi
namespace Go.Proofs.Ytgdcmebhopjfaaa
open Go.RowKit

set_option maxRecDepth 100000 in
set_option maxHeartbeats 4000000 in
theorem ref_MoebiusOf (n : Nat) (w : World) (h1 : 1 ≤ n) (hn : n ≤ 1000000) :
    Calls Try.prog 28 #[.int .i64 n] w fun e w' => e = .returned (.int .i64 (mu n)) ∧ Below w.heap.size w w' := by
  have C1 := Lib.hid (ref_DivisorsOf n w h1 hn)
  have hN1 := divs_length n
  have hN2 := divs_pos h1
  obtain ⟨N, hN⟩ : ∃ N, (divs n).length = N := ⟨_, rfl⟩
  have HF : Hid (∀ c ∈ divs n, -1000000 ≤ mu c ∧ mu c ≤ 1000000) := Lib.hid fun c hc => by
    have h2 := (mem_divs h1).1 hc
    have h3 := Nat.le_of_dvd (by omega) h2.2
    have h4 := mu_bd' c
    omega
  have HNN := Lib.hid hN
  rw [hN] at hN1 hN2
  clear hN
  go_enter Try.func28, Try.ntmps28
  go_wp2_with (first | (go_at_call 26; refine C1.out.mono ?_; rintro e w1 ⟨v1, rfl, hown1, hb1⟩; obtain ⟨gd, cd, rfl, hO1⟩ := own_formK hown1 (natInts_ne (by rw [HNN.out]; exact hN2)) HNN.out) | (at_make; refine make_own rfl _ _ 22 rfl w.heap.size 3 _ 8 Try.underlying22 intInfo rfl _ _ _ _ N (by rfl) (by rfl) rfl rfl (by omega) (by unfold maxLen; omega) hb1.size ?_; intro w2 hown hg2))
  obtain ⟨ad, kd, hv, hRd, _, k1, k2⟩ := own_dataK hO1
  cases hv
  have hRD : Hid (Reads w1 (some ⟨gd, 0, none⟩) (natInts (divs n))) := hRd
  obtain ⟨G, hG⟩ : ∃ G, w1.heap.size = G := ⟨_, rfl⟩
  rw [hG] at hown ⊢
  have hGw : w.heap.size ≤ G := by have := hb1.size; omega
  have hB1 : Hid (Below w.heap.size w w1) := hb1
  have HB2 : Hid (Below G w1 w2) := by rw [← hG]; exact below_of_grown hg2 (Nat.le_refl _) (by intro k hk; cases hk)
  have HO0 : Hid (Own w2 w.heap.size 3 G N N (stP mu n 0)) := Lib.hid (hown.congr fun j _ => by unfold stP; rw [if_neg (by omega)])
  have HG := Lib.hid hG
  have hm : N ≤ 1000001 := by omega
  clear hRd hO1 hown1 hown hg2 hb1 C1 hG
  go_wp2_with fail
  go_loopw [16] (fun vi wr => ∃ i : Nat, vi = .int .i64 i ∧ i ≤ N ∧ Hid (Own wr w.heap.size 3 G N N (stP mu n i)) ∧ Hid (Below G w1 wr)) (fun vi _ => N - (intOf vi).toNat)
  case atStart => exact ⟨0, rfl, by omega, HO0, HB2⟩
  case round =>
    obtain ⟨i, rfl, hi, hO, hb⟩ := hrel
    by_cases hiN : i < N
    · obtain ⟨d, hd⟩ : ∃ d, (divs n)[i]? = some d := ⟨_, List.getElem?_eq_getElem (show i < (divs n).length by rw [HNN.out]; exact hiN)⟩
      have hdm := (mem_divs h1).1 (List.mem_of_getElem? hd)
      have hdn := Nat.le_of_dvd (by omega) hdm.2
      have c1 := reads_cell0 (hRD.out.below (by rw [HG.out]; exact hb.out)) (natInts_get hd)
      have i0 : (0 : Int) ≤ (i : Int) := by omega
      have i1 : (i : Int) < (N : Int) := by omega
      have i2 : (i : Int) ≤ (N : Int) := by omega
      have i3 : (i : Int) ≤ (cd : Int) := by omega
      have i4 : i ≤ cd := by omega
      by_cases hi0 : i = 0
      · have z1 : ((i : Int) == 0) = true := by simp; omega
        have hd1' : d = 1 := (divs_first h1 hd).1 hi0
        have x1 := hO.out.cell hiN
        have f1 := hO.out.frozen i
        have st := hO.out.store i (.int .i64 1)
        have hO2 : Hid (Own (wr.setCell ⟨G, i, none⟩ (.int .i64 1)) w.heap.size 3 G N N (stQ mu (fun d => if d = 1 then (1 : Int) else 0) n i d 0)) := Lib.hid (st.1.congr fun j _ => by
          unfold stQ
          by_cases hj : j = i
          · rw [if_pos hj, if_pos hj, accV_zero]
            show Value.int .i64 1 = Value.int .i64 ((if d = 1 then (1 : Int) else 0) - 0)
            rw [if_pos hd1']; rfl
          · rw [if_neg hj, if_neg hj])
        have hB3 : Hid (Below G w1 (wr.setCell ⟨G, i, none⟩ (.int .i64 1))) := Lib.hid (hb.out.grown st.2 (by rw [← HG.out]; exact hb.out.size) (fun k hk => by cases hk; exact Nat.le_refl _))
        clear hi0 hd1'
        have HD := Lib.hid hd
        have hd1 := hdm.1
        have hmi : (i : Int) ≤ 1000001 := by omega
        clear st hd hdm 
        go_wp2_with fail
        go_loopw [30] (fun vk wr2 => ∃ k : Nat, vk = .int .i64 k ∧ k ≤ i ∧ Hid (Own wr2 w.heap.size 3 G N N (stQ mu (fun d => if d = 1 then (1 : Int) else 0) n i d k)) ∧ Hid (Below G w1 wr2)) (fun vk _ => i - (intOf vk).toNat)
        case atStart => exact ⟨0, rfl, by omega, hO2, hB3⟩
        case round =>
          obtain ⟨k, rfl, hk, hOk, hbk⟩ := hrel
          by_cases hki : k < i
          · obtain ⟨c, hc⟩ : ∃ c, (divs n)[k]? = some c := ⟨_, List.getElem?_eq_getElem (show k < (divs n).length by rw [HNN.out]; omega)⟩
            have hc1 := ((mem_divs h1).1 (List.mem_of_getElem? hc)).1
            have hcn := Nat.le_of_dvd (by omega) ((mem_divs h1).1 (List.mem_of_getElem? hc)).2
            have hcf := HF.out c (List.mem_of_getElem? hc)
            have hab := accV_bd mu 1000000 (d := d) HF.out (by omega) k
            have c2 := reads_cell0 (hRD.out.below (by rw [HG.out]; exact hbk.out)) (natInts_get hc)
            have e0 : (0 : Int) ≤ (k : Int) := by omega
            have e1 : (k : Int) < (i : Int) := by omega
            have e2 : (k : Int) < (N : Int) := by omega
            have hc0 : ¬ (c : Int) = 0 := by omega
            have hc0' : ¬ c = 0 := by omega
            have hrem : 0 ≤ (d : Int) % (c : Int) ∧ (d : Int) % (c : Int) ≤ d := ⟨Int.emod_nonneg _ hc0, by rw [← Int.natCast_emod]; exact_mod_cast Nat.mod_le d c⟩
            have wrm : IntKind.i64.wrap ((d : Int) % (c : Int)) = (d : Int) % (c : Int) := IntWalk.i64_in _ (by omega)
            have htm : Int.tmod (d : Int) (c : Int) = (d : Int) % (c : Int) := Int.tmod_eq_emod_of_nonneg (by omega)
            have HC := Lib.hid hc
            by_cases hdv : c ∣ d
            · have ht := dvd_beq d c hdv
              obtain ⟨a, ha⟩ : ∃ a, accV mu n d k = a := ⟨_, rfl⟩
              obtain ⟨y, hy⟩ : ∃ y, mu c = y := ⟨_, rfl⟩
              obtain ⟨b, hbb⟩ : ∃ b, (if d = 1 then (1 : Int) else 0) = b := ⟨_, rfl⟩
              have hbd : -1000000 ≤ b ∧ b ≤ 1000000 := by rw [← hbb]; split <;> omega
              rw [ha] at hab
              rw [hy] at hcf
              have x2 := hOk.out.cell hiN
              rw [show stQ mu (fun d => if d = 1 then (1 : Int) else 0) n i d k i = .int .i64 (b - a) by unfold stQ; rw [if_pos rfl, ha]; rw [← hbb]] at x2
              have x3 := hOk.out.cell (show k < N by omega)
              rw [show stQ mu (fun d => if d = 1 then (1 : Int) else 0) n i d k k = .int .i64 y by unfold stQ stP; rw [if_neg (by omega), if_pos hki, hc, ← hy]; rfl] at x3
              have f2 := hOk.out.frozen i
              have wv : IntKind.i64.wrap (b - a - y) = b - a - y := IntWalk.i64_in _ (by omega)
              have st := hOk.out.store i (.int .i64 (b - a - y))
              have hO5 : Hid (Own (wr.setCell ⟨G, i, none⟩ (.int .i64 (b - a - y))) w.heap.size 3 G N N (stQ mu (fun d => if d = 1 then (1 : Int) else 0) n i d (k + 1))) := Lib.hid (st.1.congr fun j _ => by rw [← hbb]; exact stQ_step HC.out hdv ha hy j)
              have hB5 : Hid (Below G w1 (wr.setCell ⟨G, i, none⟩ (.int .i64 (b - a - y)))) := Lib.hid (hbk.out.grown st.2 (by rw [← HG.out]; exact hbk.out.size) (fun k hk => by cases hk; exact Nat.le_refl _))
              clear hc hdv ha hy hbb st hab hcf hbd
              go_wp2_with fail
              go_region
              go_wp2_with fail
              go_roundw
              case rel => exact ⟨k + 1, by go_num, by omega, by exact hO5.out, ⟨hB5.out.os, hB5.out.tape, hB5.out.output, hB5.out.size, hB5.out.block⟩⟩
              case measure => simp [intOf]; omega
            · have ht := ndvd_beq d c hdv
              have hO5 := Lib.hid (hOk.out.congr (f' := stQ mu (fun d => if d = 1 then (1 : Int) else 0) n i d (k + 1)) fun j _ => stQ_skip HC.out hdv j)
              clear hc hdv hab hcf
              go_wp2_with fail
              go_roundw
              case rel => exact ⟨k + 1, by go_num, by omega, hO5, hbk⟩
              case measure => simp [intOf]; omega
          · have hO6 : Hid (Own wr w.heap.size 3 G N N (stP mu n (i + 1))) := Lib.hid (hOk.out.congr fun j _ => by
              rw [show k = i by omega]
              exact stQ_end h1 HD.out (sd_mu hd1) j)
            go_wp2_with fail
            go_roundw
            case rel => exact ⟨i + 1, by go_num, by omega, hO6, hbk⟩
            case measure => simp [intOf]; omega
      · have z1 : ((i : Int) == 0) = false := by simp; omega
        have hd1' : ¬ d = 1 := fun h => hi0 ((divs_first h1 hd).2 h)
        have st : True := trivial
        have hO2 : Hid (Own wr w.heap.size 3 G N N (stQ mu (fun d => if d = 1 then (1 : Int) else 0) n i d 0)) := Lib.hid (hO.out.congr fun j _ => by
          unfold stQ
          by_cases hj : j = i
          · rw [if_pos hj, accV_zero, hj]
            show _ = Value.int .i64 ((if d = 1 then (1 : Int) else 0) - 0)
            rw [if_neg hd1']
            unfold stP
            rw [if_neg (by omega)]; rfl
          · rw [if_neg hj])
        have hB3 : Hid (Below G w1 wr) := hb
        clear hi0 hd1'
        have HD := Lib.hid hd
        have hd1 := hdm.1
        have hmi : (i : Int) ≤ 1000001 := by omega
        clear st hd hdm 
        go_wp2_with fail
        go_loopw [30] (fun vk wr2 => ∃ k : Nat, vk = .int .i64 k ∧ k ≤ i ∧ Hid (Own wr2 w.heap.size 3 G N N (stQ mu (fun d => if d = 1 then (1 : Int) else 0) n i d k)) ∧ Hid (Below G w1 wr2)) (fun vk _ => i - (intOf vk).toNat)
        case atStart => exact ⟨0, rfl, by omega, hO2, hB3⟩
        case round =>
          obtain ⟨k, rfl, hk, hOk, hbk⟩ := hrel
          by_cases hki : k < i
          · obtain ⟨c, hc⟩ : ∃ c, (divs n)[k]? = some c := ⟨_, List.getElem?_eq_getElem (show k < (divs n).length by rw [HNN.out]; omega)⟩
            have hc1 := ((mem_divs h1).1 (List.mem_of_getElem? hc)).1
            have hcn := Nat.le_of_dvd (by omega) ((mem_divs h1).1 (List.mem_of_getElem? hc)).2
            have hcf := HF.out c (List.mem_of_getElem? hc)
            have hab := accV_bd mu 1000000 (d := d) HF.out (by omega) k
            have c2 := reads_cell0 (hRD.out.below (by rw [HG.out]; exact hbk.out)) (natInts_get hc)
            have e0 : (0 : Int) ≤ (k : Int) := by omega
            have e1 : (k : Int) < (i : Int) := by omega
            have e2 : (k : Int) < (N : Int) := by omega
            have hc0 : ¬ (c : Int) = 0 := by omega
            have hc0' : ¬ c = 0 := by omega
            have hrem : 0 ≤ (d : Int) % (c : Int) ∧ (d : Int) % (c : Int) ≤ d := ⟨Int.emod_nonneg _ hc0, by rw [← Int.natCast_emod]; exact_mod_cast Nat.mod_le d c⟩
            have wrm : IntKind.i64.wrap ((d : Int) % (c : Int)) = (d : Int) % (c : Int) := IntWalk.i64_in _ (by omega)
            have htm : Int.tmod (d : Int) (c : Int) = (d : Int) % (c : Int) := Int.tmod_eq_emod_of_nonneg (by omega)
            have HC := Lib.hid hc
            by_cases hdv : c ∣ d
            · have ht := dvd_beq d c hdv
              obtain ⟨a, ha⟩ : ∃ a, accV mu n d k = a := ⟨_, rfl⟩
              obtain ⟨y, hy⟩ : ∃ y, mu c = y := ⟨_, rfl⟩
              obtain ⟨b, hbb⟩ : ∃ b, (if d = 1 then (1 : Int) else 0) = b := ⟨_, rfl⟩
              have hbd : -1000000 ≤ b ∧ b ≤ 1000000 := by rw [← hbb]; split <;> omega
              rw [ha] at hab
              rw [hy] at hcf
              have x2 := hOk.out.cell hiN
              rw [show stQ mu (fun d => if d = 1 then (1 : Int) else 0) n i d k i = .int .i64 (b - a) by unfold stQ; rw [if_pos rfl, ha]; rw [← hbb]] at x2
              have x3 := hOk.out.cell (show k < N by omega)
              rw [show stQ mu (fun d => if d = 1 then (1 : Int) else 0) n i d k k = .int .i64 y by unfold stQ stP; rw [if_neg (by omega), if_pos hki, hc, ← hy]; rfl] at x3
              have f2 := hOk.out.frozen i
              have wv : IntKind.i64.wrap (b - a - y) = b - a - y := IntWalk.i64_in _ (by omega)
              have st := hOk.out.store i (.int .i64 (b - a - y))
              have hO5 : Hid (Own (wr.setCell ⟨G, i, none⟩ (.int .i64 (b - a - y))) w.heap.size 3 G N N (stQ mu (fun d => if d = 1 then (1 : Int) else 0) n i d (k + 1))) := Lib.hid (st.1.congr fun j _ => by rw [← hbb]; exact stQ_step HC.out hdv ha hy j)
              have hB5 : Hid (Below G w1 (wr.setCell ⟨G, i, none⟩ (.int .i64 (b - a - y)))) := Lib.hid (hbk.out.grown st.2 (by rw [← HG.out]; exact hbk.out.size) (fun k hk => by cases hk; exact Nat.le_refl _))
              clear hc hdv ha hy hbb st hab hcf hbd
              go_wp2_with fail
              go_region
              go_wp2_with fail
              go_roundw
              case rel => exact ⟨k + 1, by go_num, by omega, by exact hO5.out, ⟨hB5.out.os, hB5.out.tape, hB5.out.output, hB5.out.size, hB5.out.block⟩⟩
              case measure => simp [intOf]; omega
            · have ht := ndvd_beq d c hdv
              have hO5 := Lib.hid (hOk.out.congr (f' := stQ mu (fun d => if d = 1 then (1 : Int) else 0) n i d (k + 1)) fun j _ => stQ_skip HC.out hdv j)
              clear hc hdv hab hcf
              go_wp2_with fail
              go_roundw
              case rel => exact ⟨k + 1, by go_num, by omega, hO5, hbk⟩
              case measure => simp [intOf]; omega
          · have hO6 : Hid (Own wr w.heap.size 3 G N N (stP mu n (i + 1))) := Lib.hid (hOk.out.congr fun j _ => by
              rw [show k = i by omega]
              exact stQ_end h1 HD.out (sd_mu hd1) j)
            go_wp2_with fail
            go_roundw
            case rel => exact ⟨i + 1, by go_num, by omega, hO6, hbk⟩
            case measure => simp [intOf]; omega
    · obtain ⟨I, hI⟩ : ∃ I, N - 1 = I := ⟨_, rfl⟩
      have hIN : I < N := by omega
      have hIi : I < i := by omega
      obtain ⟨d, hd⟩ : ∃ d, (divs n)[I]? = some d := ⟨_, List.getElem?_eq_getElem (show I < (divs n).length by rw [HNN.out]; exact hIN)⟩
      have hdn := divs_last h1 hd (by rw [HNN.out]; omega)
      subst hdn
      have x1 := hO.out.cell hIN
      rw [show stP mu d i I = .int .i64 (mu d) by unfold stP; rw [if_pos hIi, hd]; rfl] at x1
      have w1i : IntKind.i64.wrap ((N : Int) - 1) = (I : Int) := by rw [show (N : Int) - 1 = (I : Int) by omega]; exact IntWalk.i64_in _ (by omega)
      have j0 : (0 : Int) ≤ (I : Int) := by omega
      have j1 : (I : Int) < (N : Int) := by omega
      have hfin : Hid (Below w.heap.size w wr) := hB1.out.trans (hb.out.mono hGw)
      clear hd hI
      go_wp2_with fail
      go_ret
      exact ⟨rfl, hfin.out⟩
end Go.Proofs.Ytgdcmebhopjfaaa
