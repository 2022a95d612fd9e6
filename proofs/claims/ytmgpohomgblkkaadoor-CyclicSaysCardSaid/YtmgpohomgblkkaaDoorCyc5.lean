/- The reference's RestOf. -/
import Derived.Test.YtmgpohomgblkkaaDoorCyc4
namespace Go.Proofs.YtmgpohomgblkkaaDoor
open Go.RowKit

theorem bytesOf_next (m : Nat) (f : Nat → Nat) : bytesOf (m + 1) f = bytesOf m f ++ ⟨#[UInt8.ofNat (f m)]⟩ := by
  unfold bytesOf
  apply ByteArray.ext
  rw [ByteArray.data_append]
  simp [List.range_succ]
theorem trim_DivOk {s d : ByteArray} (h : bitsB s = true) (D : ByOk d) : DivOk 2 1 (numS d) (trim (numS s)) := by
  have DD := cyc_DivOk h D
  exact ⟨DD.hp, fun x hx => DD.hf x (List.mem_of_mem_take hx), DD.hg, DD.hn, DD.hi⟩
set_option maxRecDepth 100000 in
set_option maxHeartbeats 4000000 in
theorem ref_RestOf (s d : ByteArray) (w : World) (hs : s.size ≤ 1000) (hb : bitsB s = true) (D : ByOk d) (hl : d.size ≤ s.size + 1) :
    Calls Tryd.prog 10 #[.string s, .string d] w (StrB (cycR s d) w) := by
  have C1 := Lib.hid (ref_Numbers s w hs hb)
  have C3 := Lib.hid (fun W => ref_Numbers d W (by have := D.hi; omega) D.bits)
  unfold ListPost at C1 C3
  have HDD := Lib.hid (trim_DivOk hb D)
  have hd2 := D.lo
  have hd17 := D.hi
  have HT := Lib.hid (fun j => rdn_trim hb D j)
  have HBD := Lib.hid (fun j => RR_bd hb D (s.size + 1 - d.size) j)
  obtain ⟨n, hn⟩ : ∃ n, (numS s).length = n := ⟨_, rfl⟩
  obtain ⟨m, hm⟩ : ∃ m, (numS d).length = m := ⟨_, rfl⟩
  have hn2 : n ≤ 1000 := by rw [← hn, numS_len]; exact hs
  have hm2 : m ≤ 17 := by rw [← hm, numS_len]; exact hd17
  have HMD : Hid (m = d.size) := Lib.hid (by rw [← hm, numS_len])
  rw [hn] at C1
  have HN := Lib.hid hn
  have HM := Lib.hid hm
  have w0 : IntKind.i64.wrap ((d.size : Int) - 2) = (d.size : Int) - 2 := IntWalk.i64_in _ (by omega)
  clear hn hm hb D
  go_enter Tryd.func10, Tryd.ntmps10
  go_wp2_with fail
  (with_reducible refine C1.out.mono ?_)
  rintro e w1 ⟨v1, rfl, hown1, hb1⟩
  obtain ⟨a1, c1, rfl, hR1, hno1, _⟩ := own_reads hown1
  have hc1 := own_cap6 hown1
  have HB1 := Lib.hid hb1
  have CS := Lib.hid (ref_Short (numS s) n a1 c1 w1.heap.size w1 (by omega) HN.out hc1.1 (by have := hc1.2; unfold maxLen at this; omega) hno1 (Lib.hid hR1) (Nat.le_refl _))
  unfold ListPost at CS
  clear hown1 hb1 hR1 hno1 hc1 C1
  go_wp2_with fail
  (with_reducible refine CS.out.mono ?_)
  rintro e w2 ⟨v2, rfl, hown2, hb2⟩
  obtain ⟨f, hf⟩ : ∃ f, trim (numS s) = f := ⟨_, rfl⟩
  rw [hf] at hown2 HDD HT
  have htf : Trm f := by rw [← hf]; first | exact trm_trim _ | exact trim_trm _ | exact Trm_trim _
  obtain ⟨nf, hnf⟩ : ∃ nf, f.length = nf := ⟨_, rfl⟩
  rw [hnf] at hown2
  have hnfb : nf ≤ 1000 := by
    rw [← hnf, ← hf, length_trim]
    exact Nat.le_trans (tlen_le _) (by rw [HN.out]; exact hn2)
  obtain ⟨a2, c2, rfl, hR2, hno2, _⟩ := own_reads hown2
  have hc2 := own_cap6 hown2
  have HB2 := Lib.hid (HB1.out.trans (hb2.mono HB1.out.size))
  have HR2 := Lib.hid hR2
  have HNF := Lib.hid hnf
  have HTF := Lib.hid htf
  have hc21 := hc2.1
  have hc22 : c2 ≤ 9223372036854775807 := by have := hc2.2; unfold maxLen at this; omega
  have HNO := Lib.hid hno2
  clear hown2 hb2 hR2 hc2 CS htf hnf hno2 hf
  go_wp2_with fail
  (with_reducible refine (C3.out _).mono ?_)
  rintro e w3 ⟨v3, rfl, hown3, hb3⟩
  rw [HM.out] at hown3
  obtain ⟨a3, c3, rfl, hR3, _, _⟩ := own_reads hown3
  have CR := Lib.hid (ref_Remain 2 1 f (numS d) nf m a2 a3 c2 c3 w3 (by omega) (by omega) (by omega) HDD.out HTF.out HNF.out HM.out hnfb (by omega) hc21 hc22 HNO.out (Lib.hid (HR2.out.below hb3)) (Lib.hid hR3))
  unfold RemPost ListPost at CR
  have HB3 := Lib.hid (HB2.out.trans (hb3.mono HB2.out.size))
  clear hown3 hR3 hb3 C3 HR2
  go_wp2_with fail
  (with_reducible refine CR.out.mono ?_)
  rintro e w4 ⟨h, _, hco, hlen, v4, rfl, hown4, hb4⟩
  have HCO : Hid (∀ k, co h k = RR s d (s.size + 1 - d.size) k) := Lib.hid (fun k => by rw [hco k, HT.out k])
  obtain ⟨nh, hnh⟩ : ∃ nh, h.length = nh := ⟨_, rfl⟩
  rw [hnh] at hown4
  obtain ⟨a4, c4, rfl, hR4, _, _⟩ := own_reads hown4
  have HR4 := Lib.hid hR4
  have HB4 := Lib.hid (HB3.out.trans (hb4.mono HB3.out.size))
  have HNH := Lib.hid hnh
  have hnh17 : nh ≤ 17 := by rw [← hnh]; have := HM.out; omega
  clear hown4 hR4 hb4 CR hco hlen hnh
  go_wp2_with fail
  go_loop [6, 7] (fun vo vk => ∃ i : Nat, vk = .int .i64 ((d.size : Int) - 2 - (i : Int)) ∧ i + 1 ≤ d.size ∧ vo = .string (bytesOf i fun q => cb s d (s.size + 1 - d.size) (s.size + 1 - d.size + q))) (fun _ vk => (intOf vk + 1).toNat)
  case atStart => exact ⟨0, by simp, by omega, rfl⟩
  case round =>
    obtain ⟨i, rfl, hi, rfl⟩ := hrel
    have hPs := bytesOf_size i (fun q => cb s d (s.size + 1 - d.size) (s.size + 1 - d.size + q))
    by_cases hin : i + 1 < d.size
    · obtain ⟨k, hk⟩ : ∃ k, d.size - 2 - i = k := ⟨_, rfl⟩
      have ek : (d.size : Int) - 2 - (i : Int) = (k : Int) := by omega
      rw [ek]
      have tk : decide ((0 : Int) ≤ (k : Int)) = true := by simp
      have hcb : cb s d (s.size + 1 - d.size) (s.size + 1 - d.size + i) = 48 + (RR s d (s.size + 1 - d.size) k).toNat := by
        unfold cb
        rw [show s.size - 1 - (s.size + 1 - d.size + i) = k by omega]
      have hnext := bytesOf_next i (fun q => cb s d (s.size + 1 - d.size) (s.size + 1 - d.size + q))
      try simp only at hnext
      rw [hcb, ← HCO.out k] at hnext
      have hbd := HBD.out k
      rw [← HCO.out k] at hbd
      obtain ⟨P, hP⟩ : ∃ P, (bytesOf i fun q => cb s d (s.size + 1 - d.size) (s.size + 1 - d.size + q)) = P := ⟨_, rfl⟩
      rw [hP] at hnext hPs ⊢
      have wk : IntKind.i64.wrap ((k : Int) - 1) = (k : Int) - 1 := IntWalk.i64_in _ (by omega)
      have k0 : (0 : Int) ≤ (k : Int) := by omega
      have hsum : ¬ (9223372036854775807 < P.size + 1) := by omega
      have hsum2 : ¬ (9223372036854775807 < i + 1) := by omega
      by_cases hkn : k < nh
      · have t1 : decide ((k : Int) < (nh : Int)) = true := by simp; omega
        have k1 : (k : Int) < (nh : Int) := by omega
        obtain ⟨x, hx⟩ : ∃ x, co h k = x := ⟨_, rfl⟩
        obtain ⟨b, o, rfl, hcl⟩ := HR4.out k (.int .i64 x) (by rw [List.getElem?_map, co_some (by rw [HNH.out]; exact hkn), hx]; rfl)
        rw [hx] at hnext hbd
        by_cases hx1 : x = 1
        · have t2 : (x == 1) = true := by simp [hx1]
          have HNX : Hid (bytesOf (i + 1) (fun q => cb s d (s.size + 1 - d.size) (s.size + 1 - d.size + q)) = P ++ ⟨#[49]⟩) := Lib.hid (by rw [hnext, hx1]; rfl)
          clear hnext hx hx1 hP hcb
          go_wp2_with fail
          go_round
          case rel => exact ⟨i + 1, by first | go_num | (congr 1; omega), by omega, by rw [HNX.out]⟩
          case measure => simp [intOf] <;> omega
        · have t2 : (x == 1) = false := by simp [hx1]
          have HNX : Hid (bytesOf (i + 1) (fun q => cb s d (s.size + 1 - d.size) (s.size + 1 - d.size + q)) = P ++ ⟨#[48]⟩) := Lib.hid (by rw [hnext, show x = 0 by omega]; rfl)
          clear hnext hx hx1 hP hcb
          go_wp2_with fail
          go_round
          case rel => exact ⟨i + 1, by first | go_num | (congr 1; omega), by omega, by rw [HNX.out]⟩
          case measure => simp [intOf] <;> omega
      · have t1 : decide ((k : Int) < (nh : Int)) = false := by simp; omega
        have hx : co h k = 0 := co_out (by rw [HNH.out]; omega)
        have HNX : Hid (bytesOf (i + 1) (fun q => cb s d (s.size + 1 - d.size) (s.size + 1 - d.size + q)) = P ++ ⟨#[48]⟩) := Lib.hid (by rw [hnext, hx]; rfl)
        clear hnext hx hP hcb
        go_wp2_with fail
        go_round
        case rel => exact ⟨i + 1, by first | go_num | (congr 1; omega), by omega, by rw [HNX.out]⟩
        case measure => simp [intOf] <;> omega
    · have ei : i = d.size - 1 := by omega
      have ek : (d.size : Int) - 2 - (i : Int) = -1 := by omega
      rw [ek]
      have HS : Hid ((bytesOf i fun q => cb s d (s.size + 1 - d.size) (s.size + 1 - d.size + q)) = cycR s d) := Lib.hid (by unfold cycR; rw [ei])
      rw [HS.out]
      clear ek
      go_wp2_with fail
      go_ret
      exact ⟨rfl, HB4.out⟩
end Go.Proofs.YtmgpohomgblkkaaDoor
