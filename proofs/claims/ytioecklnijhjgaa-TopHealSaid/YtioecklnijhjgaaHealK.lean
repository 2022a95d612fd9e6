/- TopHeal: the walk. -/
import Derived.Test.YtioecklnijhjgaaHealP
import Derived.Test.YtioecklnijhjgaaStore7
import Derived.Test.YtioecklnijhjgaaHlM40
import Derived.Test.YtioecklnijhjgaaHlM45
import Derived.Test.YtioecklnijhjgaaHlM34
import Derived.Test.YtioecklnijhjgaaTopW
namespace Go.Proofs.Ytioecklnijhjgaa
open Go.RowKit

theorem wf_bdH {a : Int} (h : (Lit.int .i64 a).wf = true) : -9223372036854775808 ≤ a ∧ a ≤ 9223372036854775807 := by
  simpa [Lit.wf, IntKind.min, IntKind.max, IntKind.signed, IntKind.bits] using h
theorem least_ok {n k x y : Nat} (h1 : 1 ≤ k) (h2 : k ≤ n) (h3 : n ≤ 10) (hx : (n + k + 1) / 2 = x) (hy : (n + k) / 2 = y) : qErr n k x y = 0 := by
  unfold qErr
  have a1 : inB (k : Int) n = true := by unfold inB; simp; omega
  have a2 : inB (x : Int) n = true := by unfold inB; simp; omega
  have a3 : inB (y : Int) n = true := by unfold inB; simp; omega
  rw [if_neg (by rw [a1, a2, a3]; simp; omega), if_neg (by omega)]
def DoE (base : Nat) (Av : Nat → Prop) (n k wr r b nb : Nat) (tx : ByteArray) (a m E : Int) (st : St) (w : World) (e : Ending) (w' : World) : Prop :=
  e = .returned (.tuple #[.agg #[.string tx, .int .i64 a, .int .i64 0, .int .i64 m], .int .i64 E]) ∧ (∃ V', Shf w' base Av n k wr r b nb V' st) ∧ Kept Av base w w'
theorem DoE.of {base : Nat} {Av : Nat → Prop} {n k wr r b nb : Nat} {R : St × Tl × Nat} {w : World} {f : FuncId} {args : Array Value} (h : Calls Try.prog f args w (DoPost base Av n k wr r b nb R w)) (tx : ByteArray) (a m E : Int) (st : St) (h1 : R.2.1.tx = tx) (h2 : (R.2.1.at' : Int) = a) (h3 : (R.2.1.mn : Int) = m) (h4 : (R.2.2 : Int) = E) (h5 : R.1 = st) :
    Calls Try.prog f args w (DoE base Av n k wr r b nb tx a m E st w) := by
  subst h1 h2 h3 h4 h5
  exact h
set_option maxRecDepth 100000 in
set_option maxHeartbeats 16000000 in
theorem heal_walk (n0 k0 : Int) (text : ByteArray) (ao : Option Addr) (len cap : Nat) (zs : List Int) (w : World) (hn0 : (Lit.int .i64 n0).wf = true) (hk0 : (Lit.int .i64 k0).wf = true) (ht : text.size ≤ maxLen) (hI : IntsIn .i64 w ao len zs ∧ CapOk ao len cap) :
    Calls Try.prog 4 #[.int .i64 n0, .int .i64 k0, .string text, .slice ao len cap] w (Yes w) := by
  obtain ⟨⟨hlz, h63, hwf, hR⟩, hna, hca, hca2⟩ := hI
  have bn := wf_bdH hn0
  have bk := wf_bdH hk0
  unfold maxLen at ht
  obtain ⟨N, hN⟩ : ∃ N : Nat, n0 % 9 = N := ⟨(n0 % 9).toNat, by omega⟩
  have hN9 : N < 9 := by omega
  obtain ⟨n, hn⟩ : ∃ n, N + 2 = n := ⟨_, rfl⟩
  obtain ⟨K, hK⟩ : ∃ K : Nat, k0 % ((n : Int) - 1) = K := ⟨(k0 % ((n : Int) - 1)).toNat, by have := Int.emod_nonneg k0 (show (n : Int) - 1 ≠ 0 by omega); omega⟩
  have hK9 : (K : Int) < (n : Int) - 1 := by rw [← hK]; exact Int.emod_lt_of_pos _ (by omega)
  obtain ⟨k, hk⟩ : ∃ k, K + 1 = k := ⟨_, rfl⟩
  obtain ⟨x, hx⟩ : ∃ x, (n + k + 1) / 2 = x := ⟨_, rfl⟩
  obtain ⟨y, hy⟩ : ∃ y, (n + k) / 2 = y := ⟨_, rfl⟩
  have hk1 : 1 ≤ k := by omega
  have hkn : k + 1 ≤ n := by omega
  have hn10 : n ≤ 10 := by omega
  have hn2 : 2 ≤ n := by omega
  have hxn : x ≤ n := by omega
  have hyn : y ≤ n := by omega
  have C1 := Lib.hid (keep_Within n0 9 w bn.1 bn.2 (by omega) (by omega))
  have C2 := Lib.hid (fun W => keep_Within k0 ((n : Int) - 1) W bk.1 bk.2 (by omega) (by omega))
  rw [hN] at C1
  rw [hK] at C2
  have CL := Lib.hid (fun W => quorum_Least n k W (by omega) hn10 hk1 (by omega) x y hx hy)
  have hq := least_ok hk1 (by omega) hn10 hx hy
  have CN := Lib.hid (fun W => store_New n k x y w.heap.size (fun g => g < W.heap.size) W hq hn10)
  unfold NewSt at CN
  have e1 : (2 : Int) + (N : Int) = (n : Int) := by omega
  have e2 : (1 : Int) + (K : Int) = (k : Int) := by omega
  have CW := Lib.hid (fun W => top_works W)
  have CG := Lib.hid (fun W ao' (h : Reads W ao' [.int .i64 0, .int .i64 0]) => good_two ao' 2 W (Lib.hid h))
  clear hn0 hk0 hN hn hK hk hx hy hq
  go_enter Try.func4, Try.ntmps4
  go_wp2_with fail
  (with_reducible refine C1.out.mono ?_)
  rintro e w1 ⟨rfl, q1, rfl⟩
  clear C1
  go_wp2_with fail
  (with_reducible refine (C2.out _).mono ?_)
  rintro e w2 ⟨rfl, q2, rfl⟩
  clear C2
  go_wp2_with fail
  (with_reducible refine (CL.out _).mono ?_)
  rintro e w3 ⟨rfl, hb3⟩
  have HB3 : Hid (Below w.heap.size w w3) := Lib.hid ((below_dr w.heap.size w (q1 + q2)).trans hb3)
  clear hb3 CL
  go_wp2_with fail
  (with_reducible refine (CN.out _ (by have := HB3.out.size; simp; omega) (fun _ h => h)).mono ?_)
  rintro e w4 ⟨b, nb, V, rfl, hS4, hb4⟩
  obtain ⟨Av, hAv⟩ : ∃ Av, (fun g => g < (w3.alloc (.cells #[.int .i64 (n : Int), .int .i64 k, .int .i64 x, .int .i64 y] 23)).heap.size) = Av := ⟨_, rfl⟩
  rw [hAv] at hS4
  have HS4 := Lib.hid hS4
  have HB4 : Hid (Below w.heap.size w w4) := Lib.hid ((HB3.out.alloc HB3.out.size _).trans (hb4.mono (by have := HB3.out.size; simp; omega)))
  clear hS4 hb4 CN hAv e1 e2
  go_wp2_with fail
  (with_reducible refine (CW.out _).mono ?_)
  rintro e w5 ⟨rfl, hb5⟩
  have HB5 := Lib.hid hb5
  clear hb5 CW
  go_wp2_with fail
  (with_reducible refine (CG.out _ _ (reads_new w5 #[.int .i64 0, .int .i64 0] 26)).mono ?_)
  rintro e w6' ⟨rfl, q6, hw6⟩
  have hb46 : Below w4.heap.size w4 w6' := by
    rw [hw6]
    exact below_drewN (HB5.out.alloc HB5.out.size _) q6
  have HB6 := Lib.hid (HB4.out.trans (hb46.mono HB4.out.size))
  have hS6 := HS4.out.below hb46
  have HZ := Lib.hid hlz
  have HR := Lib.hid hR
  have HWF := Lib.hid hwf
  clear hw6 hb46 CG hlz hR hwf hna hca hca2
  by_cases h60 : 60 < text.size
  · have CP : Hid (Calls Try.prog 8 #[.pointer (some ⟨b, 0, none⟩), .agg #[.int .i64 1, .int .i64 0, .int .i64 0, .string text]] w6' (DoE w.heap.size Av n k x y b nb ⟨#[]⟩ 0 0 2 St0 w6')) := Lib.hid (by
      have h1 := store_Do_put 0 0 text (by omega) ht hk1 (by omega) hn10 hS6
      rw [show putF n k x St0 0 text = (St0, Tl.no, 2) from put_large h60] at h1
      exact DoE.of h1 _ _ _ _ _ rfl rfl rfl rfl rfl)
    unfold DoE at CP
    clear hS6 h60
    go_wp2_with fail
    (with_reducible refine CP.out.mono ?_)
    rintro e w7 ⟨rfl, _, hK7⟩
    have HB7 : Hid (Below w.heap.size w w7) := Lib.hid (HB6.out.trans hK7.bel)
    clear hK7 CP
    go_wp2_with fail
    go_ret
    exact ⟨rfl, HB7.out.alloc HB7.out.size _⟩
  obtain ⟨st1, hput, hsem⟩ := put_semi (n := n) (k := k) (wr := x) (text := text) (by omega) hxn
  have CP : Hid (Calls Try.prog 8 #[.pointer (some ⟨b, 0, none⟩), .agg #[.int .i64 1, .int .i64 0, .int .i64 0, .string text]] w6' (DoE w.heap.size Av n k x y b nb ⟨#[]⟩ 1 0 0 st1 w6')) := Lib.hid (by
    have h1 := store_Do_put 0 0 text (by omega) ht hk1 (by omega) hn10 hS6
    rw [show putF n k x St0 0 text = (st1, ⟨ByteArray.empty, 1, 0⟩, 0) from hput] at h1
    exact DoE.of h1 _ _ _ _ _ rfl rfl rfl rfl rfl)
  unfold DoE at CP
  have HSEM := Lib.hid hsem
  have HT60 : Hid (text.size ≤ 60) := Lib.hid (by omega)
  clear hS6 h60 hput hsem
  go_wp2_with fail
  (with_reducible refine CP.out.mono ?_)
  rintro e w7 ⟨rfl, ⟨V7, hS7⟩, hK7⟩
  obtain ⟨W8, hW8⟩ : ∃ W8, w7.alloc (.cells #[.string ⟨#[]⟩, .int .i64 1, .int .i64 0, .int .i64 0] 40) = W8 := ⟨_, rfl⟩
  have hb78 : Below w7.heap.size w7 W8 := by rw [← hW8]; exact below_alloc _ _
  have hp8 : W8.heap[w7.heap.size]? = some (.cells #[.string ⟨#[]⟩, .int .i64 1, .int .i64 0, .int .i64 0] 40 (0, 0)) := by rw [← hW8]; exact heap_alloc_new w7 _
  have hS8 := hS7.wide hb78
  have HPA : Hid (WideA Av w7.heap.size W8.heap.size w7.heap.size) := Lib.hid (WideA.new (Nat.le_refl _) (by rw [← hW8]; simp))
  obtain ⟨Ax, hAx⟩ : ∃ Ax, WideA Av w7.heap.size W8.heap.size = Ax := ⟨_, rfl⟩
  rw [hAx] at hS8 HPA
  have HS8 := Lib.hid hS8
  have HP8 := Lib.hid hp8
  have HB8 : Hid (Below w.heap.size w W8) := Lib.hid ((HB6.out.trans hK7.bel).trans (hb78.mono (HB6.out.trans hK7.bel).size))
  have HW8 := Lib.hid hW8
  clear hS7 hK7 CP hb78 hp8 hAx hS8 hW8
  go_wp2_with fail
  rw [HW8.out]
  go_loopw [66] (fun vj wr => ∃ (j : Nat) (st : St) (V' : Nat → Nat → Value), vj = .int .i64 j ∧ j ≤ len ∧ Hid (Semi n k n text st) ∧ Hid (Shf wr w.heap.size Ax n k x y b nb V' st) ∧ Hid (Kept Ax w.heap.size W8 wr)) (fun vj _ => len - (intOf vj).toNat)
  case atStart => exact ⟨0, st1, V7, rfl, by omega, HSEM, HS8, Lib.hid (Kept.refl _ _ _)⟩
  case round =>
    clear HSEM HS8
    obtain ⟨j, st, V', rfl, hj, HSM, HSj, HKj⟩ := hrel
    obtain ⟨wq, rfl⟩ : ∃ wq, wq = wr := ⟨_, rfl⟩
    by_cases hjl : j < len
    · obtain ⟨z, hz⟩ : ∃ z, zs[j]? = some z := ⟨zs[j]'(by rw [HZ.out]; exact hjl), List.getElem?_eq_getElem _⟩
      obtain ⟨bo, oo, rfl, xz⟩ := (HR.out.below (HB8.out.trans HKj.out.bel)) j (.int .i64 z) (by rw [List.getElem?_map, hz]; rfl)
      have bz := wf_bdH (HWF.out z (List.mem_of_getElem? hz))
      obtain ⟨m, hm⟩ : ∃ m : Nat, z % (n : Int) = m := ⟨(z % (n : Int)).toNat, by have := Int.emod_nonneg z (show (n : Int) ≠ 0 by omega); omega⟩
      have hmn : m < n := by
        have := Int.emod_lt_of_pos z (show (0 : Int) < n by omega)
        omega
      have CI := Lib.hid (keep_Within z (n : Int) wq bz.1 bz.2 (by omega) (by omega))
      rw [hm] at CI
      have hSL := HSM.out.lose m
      obtain ⟨st2, hrd, hsm2⟩ := hSL.read (wr := x) (r := y) HT60.out hk1 hkn hn10 hxn hyn
      rw [if_pos hmn] at hrd
      have HSM2 := Lib.hid hsm2
      have CL6 : Hid (∀ q, Calls Try.prog 8 #[.pointer (some ⟨b, 0, none⟩), .agg #[.int .i64 6, .int .i64 0, .int .i64 (m : Int), .string ⟨#[]⟩]] (wq.drewN q) (DoE w.heap.size Ax n k x y b nb ⟨#[]⟩ 0 0 0 (st.lose m) (wq.drewN q))) := Lib.hid fun q => by
        have h1 := store_Do_at 6 0 (m : Int) ⟨#[]⟩ (.inr (.inr (.inl rfl))) (by intro h; cases h) hn10 (HSj.out.below (below_dr _ _ q))
        have e : atF n st 6 (0 : Int).toNat (m : Int) = (st.lose m, 0) := by
          unfold atF
          rw [if_neg (by omega), if_neg (by decide), if_neg (by decide), if_pos rfl]
          rfl
        rw [e] at h1
        exact DoE.of h1 _ _ _ _ _ rfl rfl rfl rfl rfl
      unfold DoE at CL6
      have CS8 : Hid (∀ W V2, Shf W w.heap.size Ax n k x y b nb V2 (st.lose m) → Calls Try.prog 8 #[.pointer (some ⟨b, 0, none⟩), .agg #[.int .i64 8, .int .i64 0, .int .i64 0, .string ⟨#[]⟩]] W (DoE w.heap.size Ax n k x y b nb ⟨#[]⟩ 0 1 0 st2 W)) := Lib.hid fun W V2 hS => by
        have h1 := store_Do_scrub 0 0 ⟨#[]⟩ (by omega) hk1 (by omega) hn10 hS
        rw [hrd] at h1
        exact DoE.of h1 _ _ _ _ _ rfl rfl rfl rfl rfl
      unfold DoE at CS8
      clear hz bz hm hSL hrd hsm2
      go_wp2_with fail
      (with_reducible refine CI.out.mono ?_)
      rintro e w9' ⟨rfl, q9, rfl⟩
      go_wp2_with fail
      (with_reducible refine (CL6.out q9).mono ?_)
      rintro e w9 ⟨rfl, ⟨V9, hS9⟩, hK9⟩
      have HS9 := Lib.hid (hS9.below (below_alloc w9 (.cells #[.string ⟨#[]⟩, .int .i64 0, .int .i64 0, .int .i64 0] 40)))
      have HK9 : Hid (Kept Ax w.heap.size W8 (w9.alloc (.cells #[.string ⟨#[]⟩, .int .i64 0, .int .i64 0, .int .i64 0] 40))) := Lib.hid (HKj.out.trans ((show Kept Ax w.heap.size wq w9 from ⟨(below_dr _ _ q9).trans hK9.bel, hK9.blk⟩).trans (hS9.kept (below_alloc _ _))))
      clear hS9 hK9 CI CL6
      go_wp2_with fail
      (with_reducible refine (CS8.out _ _ HS9.out).mono ?_)
      rintro e w11 ⟨rfl, ⟨V11, hS11⟩, hK11⟩
      have HS11 := Lib.hid (hS11.below (below_alloc w11 (.cells #[.string ⟨#[]⟩, .int .i64 0, .int .i64 0, .int .i64 1] 40)))
      have HK11 : Hid (Kept Ax w.heap.size W8 (w11.alloc (.cells #[.string ⟨#[]⟩, .int .i64 0, .int .i64 0, .int .i64 1] 40))) := Lib.hid (HK9.out.trans (hK11.trans (hS11.kept (below_alloc _ _))))
      clear hS11 hK11 CS8
      go_wp2_with fail
      go_roundw
      case rel => exact ⟨j + 1, st2, V11, by go_num, by omega, HSM2, HS11, HK11⟩
      case measure => simp [intOf]; omega
    · obtain rfl : len = j := by omega
      obtain ⟨st2, hrd, hsm2⟩ := HSM.out.read (wr := x) (r := y) HT60.out hk1 hkn hn10 hxn hyn
      have CG3 : Hid (Calls Try.prog 8 #[.pointer (some ⟨b, 0, none⟩), .agg #[.int .i64 3, .int .i64 0, .int .i64 0, .string ⟨#[]⟩]] wq (DoE w.heap.size Ax n k x y b nb text 1 0 0 st2 wq)) := Lib.hid (by
        have h1 := store_Do_get 0 0 ⟨#[]⟩ (by omega) hk1 (by omega) hn10 HSj.out
        rw [hrd] at h1
        exact DoE.of h1 _ _ _ _ _ rfl rfl rfl rfl rfl)
      unfold DoE at CG3
      clear hrd hsm2
      go_wp2_with fail
      (with_reducible refine CG3.out.mono ?_)
      rintro e w9 ⟨rfl, ⟨V9, hS9⟩, hK9⟩
      have hp9 := (hK9.blk _ HPA.out).trans ((HKj.out.blk _ HPA.out).trans HP8.out)
      have hp10 := heap_alloc_old w9 (.cells #[.string text, .int .i64 1, .int .i64 0, .int .i64 0] 40) hp9
      have x1 := heap_cell hp10 1
      have x2 := heap_cell hp10 2
      simp only [List.getElem?_toArray, List.getElem?_cons_zero, List.getElem?_cons_succ] at x1 x2
      have HB10 : Hid (Below w.heap.size w (w9.alloc (.cells #[.string text, .int .i64 1, .int .i64 0, .int .i64 0] 40))) := Lib.hid (((HB8.out.trans HKj.out.bel).trans hK9.bel).alloc ((HB8.out.trans HKj.out.bel).trans hK9.bel).size _)
      have te : (text.toList == text.toList) = true := by simp
      clear hS9 hK9 hp9 hp10 CG3
      go_wp2_with fail
      go_ret
      exact ⟨by first | rfl | simp, HB10.out⟩
end Go.Proofs.Ytioecklnijhjgaa
