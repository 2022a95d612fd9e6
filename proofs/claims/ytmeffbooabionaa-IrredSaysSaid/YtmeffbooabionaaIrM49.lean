/- IrredSays: the walk, where First and Count answer. (Printed by wip/tools/gen_irrj.py.) -/
import Derived.Test.YtmeffbooabionaaIrrJ
import Derived.Test.YtmeffbooabionaaIrrI
import Derived.Test.YtmeffbooabionaaIrrD
import Derived.Deep.CutBlock
import Derived.Deep.DeepCutAuto
import Derived.Outline
set_option linter.unusedVariables false
set_option linter.unusedSimpArgs false
namespace Go.Proofs.Ytmeffbooabionaa
open Go.RowKit

theorem mon_get {p n k j : Nat} (h : j < n) : ((mon p n k).map (Value.int .i64))[j]? = some (.int .i64 (dig p k j : Nat)) := by
  unfold mon monN digsN
  rw [List.getElem?_map, List.getElem?_map, List.getElem?_append_left (by simpa using h), List.getElem?_map, List.getElem?_range h]
  rfl
theorem mon_getN (p n k : Nat) : ((mon p n k).map (Value.int .i64))[n]? = some (.int .i64 1) := by
  unfold mon monN
  have hl : (digsN p n k).length = n := by unfold digsN; simp
  rw [List.getElem?_map, List.getElem?_map, List.getElem?_append_right (by rw [hl]; exact Nat.le_refl _), hl, Nat.sub_self]
  rfl
theorem own_emptyI (w : World) (base e : Nat) (hb : base ≤ w.heap.size) : (w.alloc (.cells #[] e)).ownsRow base e 1 (.slice (some ⟨w.heap.size, 0, none⟩) 0 0) 0 [] :=
  ⟨by simp, .inr ⟨w.heap.size, 0, #[], rfl, hb, heap_alloc_new w _, Nat.le_refl _, by unfold maxLen; omega, by simp, by simp⟩⟩
theorem at_step {p k j t d : Nat} (h1 : k / p ^ (j + 1) = t) (h2 : dig p k j = d) : k / p ^ j = t * p + d := by
  unfold dig at h2
  rw [← h1, ← h2, Nat.pow_succ, ← Nat.div_div_eq_div_mul]
  exact (Nat.div_add_mod' _ _).symm
set_option maxRecDepth 100000 in
set_option maxHeartbeats 16000000 in
theorem irred_good (P n : Nat) (ao : Option Addr) (nf ca : Nat) (f : List Int) (w : World) (hp : (Lit.int .i64 (P : Int)).wf = true) (h1 : IntsIn .i64 w ao nf f ∧ CapOk ao nf ca) (hE1 : irrE (P : Int) (n : Int) = 0) :
    Calls Try.prog 5 #[.int .i64 (P : Int), .slice ao nf ca, .int .i64 (n : Int)] w fun e w' => e = .returned (.bool true) ∧ Below w.heap.size w w' := by
  obtain ⟨⟨hlf, h63, _, hF'⟩, hna, hca, hca2⟩ := h1
  have hF := Lib.hid hF'
  have CE := Lib.hid (fun W (hb : Below w.heap.size w W) => ref_PolyErr (P : Int) f ao nf ca W hp hlf h63 (hF.out.below hb))
  have CI := Lib.hid (irr_Is (P : Int) f ao nf ca w hp hlf h63 hna hF)
  have CFE := Lib.hid (fun W => ref_FieldErr (P : Int) W hp)
  have HCASE := Lib.hid (isE_cases (P : Int) f)
  have HALN : Hid (isE (P : Int) f = 0 → ∀ W, Below w.heap.size w W → Calls Try.prog 26 #[.int .i64 (P : Int), .slice ao nf ca] W fun e w' => e = .returned (.bool (irrB P f)) ∧ Below W.heap.size W w') := by
    intro h0 W hb
    obtain ⟨OF, hpw⟩ := isE_zero h0
    rw [Int.toNat_natCast] at hpw
    have q1 := OF.p1
    have := ref_Alone P f nf ao ca W OF hpw hlf hca hca2 hna (hF.out.below hb)
    exact this
  rw [Int.toNat_natCast] at CI
  rw [Int.toNat_natCast] at HCASE
  rw [hlf] at HCASE
  obtain ⟨E, hE⟩ : ∃ E, isE (P : Int) f = E := ⟨_, rfl⟩
  obtain ⟨E0, hE0⟩ : ∃ E0, polE (P : Int) f = E0 := ⟨_, rfl⟩
  obtain ⟨q, hq⟩ : ∃ q, nf / 2 + 1 = q := ⟨_, rfl⟩
  rw [hE] at CI HCASE HALN
  rw [hE0] at CE HCASE
  rw [hq] at HCASE
  have HNF : Hid (E0 = 0 → nf ≤ 40) := fun h => by rw [← hlf]; exact (polOk_of (hE0.trans h)).len
  obtain ⟨b, hb⟩ : ∃ b, (if E = 0 then irrB P f else false) = b := ⟨_, rfl⟩
  rw [hb] at CI
  have HBB : Hid (E ≠ 0 → b = false) := fun h => by rw [← hb, if_neg h]
  have HAL : Hid (E = 0 → ∀ W, Below w.heap.size w W → Calls Try.prog 26 #[.int .i64 (P : Int), .slice ao nf ca] W fun e w' => e = .returned (.bool b) ∧ Below W.heap.size W w') := fun h => by rw [← hb, if_pos h]; exact HALN h
  have HQ := Lib.hid hq
  obtain ⟨B5, hB5⟩ : ∃ B5, decide (E ≠ E0) = B5 := ⟨_, rfl⟩
  have HD5 := Lib.hid hB5
  clear hB5
  obtain ⟨a1, a2, a3, a4, a5, a6⟩ := irrE_zero hE1
  rw [Int.toNat_natCast] at a3 a6
  rw [Int.toNat_natCast] at a6
  have hP2 : 2 ≤ P := by omega
  have hP9 : P ≤ 997 := by omega
  have hn1 : 1 ≤ n := by omega
  have hn19 := n19 hP2 a6
  obtain ⟨k1, hk1, hIr⟩ := irr_ex a3 hP9 hn1 hn19 a6
  obtain ⟨k0, hF0, hmin⟩ := fst_ex ⟨k1, hIr⟩
  have hk0n : k0 < P ^ n := Nat.lt_of_le_of_lt (hmin k1 hIr) hk1
  have hk6 : k0 ≤ 1000000 := by omega
  have CF := Lib.hid (fun W => irr_First P n k0 W hp hE1 hF0 hk6)
  have CC := Lib.hid (fun W => irr_Count P n W hp hE1)
  have CAM := Lib.hid (fun W => ref_AloneMany P n W hP2 hP9 hn1 a6)
  have CPW := Lib.hid (fun W => ref_Powered P n W hP2 hP9 (by omega))
  have HPW := Lib.hid a6
  have HK0 : Hid (k0 / P ^ n = 0) := Nat.div_eq_of_lt hk0n
  have HFB := Lib.hid hF0.1
  have HFS := Lib.hid hF0.2
  have hF1 : fldE (P : Int) = 0 := fldE_zero a1 a2 (by rw [Int.toNat_natCast]; exact a3)
  rw [hF1] at CFE
  have hMO := fun k => mon_ok (k := k) hP2 hP9 a3 (show n ≤ 39 by omega)
  have hpz : polE (P : Int) (mon P n k0) = 0 := polE_okI (hMO k0)
  obtain ⟨M, hM⟩ : ∃ M, n + 1 = M := ⟨_, rfl⟩
  have HM := Lib.hid hM
  have hlM := fun k => (mon_len P n k).trans hM
  have CAL := Lib.hid (fun k W bo cb (c1 : M ≤ cb) (c2 : cb ≤ 9223372036854775807) (c3 : bo = none → M = 0 ∧ cb = 0) hR => ref_Alone P (mon P n k) M bo cb W (hMO k) (fun d hd => by rw [hlM] at hd; exact Nat.le_trans (pw_mono (by omega) (by omega)) a6) (hlM k) c1 c2 c3 hR)
  have CPE := Lib.hid (fun W g hR => ref_PolyErr P (mon P n k0) (some ⟨g, 0, none⟩) M M W hp (hlM k0) (by omega) hR)
  rw [hpz] at CPE
  rw [hM] at CF
  obtain ⟨A, hA⟩ : ∃ A, amN P n = A := ⟨_, rfl⟩
  rw [hA] at CC CAM
  obtain ⟨N1, hN1⟩ : ∃ N1, n - 1 = N1 := ⟨_, rfl⟩
  have eM : (n : Int) + 1 = (M : Int) := by omega
  have eN1 : (n : Int) - 1 = (N1 : Int) := by omega
  have d1 : decide ((n : Int) < 1) = false := by simp; omega
  have d2 : decide (39 < (n : Int)) = false := by simp; omega
  have hnM : n < M := by omega
  have hnMz : (n : Int) < (M : Int) := by omega
  have HPR := Lib.hid a3
  clear a1 a2 a3 a4 a5 a6 hE hE0 hE1 hq hb hF' hlf hna hca hca2 HALN hIr hk1 hF0 hmin hk0n hF1 hMO hpz hM hlM hA hN1
  go_enter Try.func5, Try.ntmps5
  go_upto_region 5 with (first
    | (go_at_call 21; (refine CI.out.mono ?_); rintro e w1 ⟨rfl, hb1⟩)
    | (go_at_call 22; (refine (CF.out _).mono ?_); rintro e w2 ⟨g, rfl, hRg2, hb2⟩; have hB2 : Below w.heap.size w w2 := hb1.trans (hb2.mono hb1.size))
    | (go_at_call 23; (refine (CC.out _).mono ?_); rintro e w3 ⟨rfl, hb3⟩; have hB3 : Below w.heap.size w w3 := hB2.trans (hb3.mono hB2.size); have hRg3 := hRg2.below hb3)
    | (go_at_call 24; (refine (CE.out _ hB3).mono ?_); rintro e w4 ⟨rfl, hb4⟩)
    | fail)
  have HB3 := Lib.hid hB3
  have HRG := Lib.hid hRg3
  have HB4 := Lib.hid hb4
  clear hb1 hb2 hb3 hb4 hB2 hB3 hRg2 hRg3
  go_cut [49] (fun s wc => Hid (s = .bool B5) ∧ Hid (Below w3.heap.size w3 wc))
  case first =>
    rcases HCASE.out with ⟨h0, h1⟩ | ⟨h0, g1, g2, hpq, h1⟩ | ⟨h0, g1, g2, hpq, h1⟩
    · subst h1
      have hz : (E == 0) = false := by simp; omega
      have hz2 : ¬ E = 0 := h0
      go_wp2_with fail
      go_meet
      exact ⟨by show _ = _; rw [← HD5.out]; simp <;> omega, HB4.out⟩
    · subst h0 h1
      skip
      have eq1 : Int.tdiv (nf : Int) 2 = ((nf / 2 : Nat) : Int) := rfl
      have hq0 := HQ.out
      obtain ⟨hf2, hhf⟩ : ∃ hf2, nf / 2 = hf2 := ⟨_, rfl⟩
      rw [hhf] at eq1 hq0
      have eq2 : (nf : Int) / 2 = (hf2 : Int) := by omega
      have eq3 : (hf2 : Int) + 1 = (q : Int) := by omega
      have hn40 := HNF.out rfl
      have hq21 : q ≤ 21 := by omega
      have CP := Lib.hid (fun W => ref_Powered P q W (by omega) (by omega) (by omega))
      have HPQ := Lib.hid hpq
      clear hpq hhf hq0
      go_wp2_with (first
        | (go_at_call 25; (refine (CP.out _).mono ?_); rintro e w5 ⟨⟨v, rfl, hv⟩, rfl⟩; have hv1 : (1000000 : Int) < (v : Int) := by have := hv.2.1 HPQ.out; omega)
        | fail)
      go_meet
      exact ⟨by show _ = _; rw [← HD5.out]; simp <;> omega, HB4.out⟩
    · subst h0 h1
      skip
      have eq1 : Int.tdiv (nf : Int) 2 = ((nf / 2 : Nat) : Int) := rfl
      have hq0 := HQ.out
      obtain ⟨hf2, hhf⟩ : ∃ hf2, nf / 2 = hf2 := ⟨_, rfl⟩
      rw [hhf] at eq1 hq0
      have eq2 : (nf : Int) / 2 = (hf2 : Int) := by omega
      have eq3 : (hf2 : Int) + 1 = (q : Int) := by omega
      have hn40 := HNF.out rfl
      have hq21 : q ≤ 21 := by omega
      have CP := Lib.hid (fun W => ref_Powered P q W (by omega) (by omega) (by omega))
      have HPQ := Lib.hid hpq
      clear hpq hhf hq0
      go_wp2_with (first
        | (go_at_call 25; (refine (CP.out _).mono ?_); rintro e w5 ⟨⟨v, rfl, hv⟩, rfl⟩; have hv1 : ¬ ((1000000 : Int) < (v : Int)) := by have h1 := HPQ.out; have h2 := hv.1 h1; omega)
        | fail)
      go_meet
      exact ⟨by show _ = _; rw [← HD5.out]; simp <;> omega, HB4.out⟩
  case rest =>
    obtain ⟨hs, hB5⟩ := hcut
    have hs1 := hs.out
    subst hs1
    clear HB4 hs
    go_upto_if 49 with fail
    go_cut [13] (fun s wc => Hid (s = .int .i64 E) ∧ Hid (Below w3.heap.size w3 wc))
    case first =>
      cases B5 with
      | false =>
        have he : E = E0 := by have := HD5.out; simpa using this
        have HE := Lib.hid he
        clear he
        go_wp2_with fail
        go_meet
        exact ⟨by show _ = _; rw [HE.out], hB5.out⟩
      | true =>
        have he : E = 2 := by
          have h1 := HD5.out
          have h2 : E ≠ E0 := by simpa using h1
          rcases HCASE.out with ⟨_, h⟩ | ⟨_, _, _, _, h⟩ | ⟨h0, _, _, _, h⟩
          · exact absurd h h2
          · exact h
          · exact absurd (h.trans h0.symm) h2
        have HE := Lib.hid he
        clear he
        go_wp2_with fail
        go_meet
        exact ⟨by show _ = _; rw [HE.out], hB5.out⟩
    case rest =>
      obtain ⟨hs, hB6⟩ := hcut
      have hs1 := hs.out
      subst hs1
      clear hB5 hs HD5 HCASE CE CI HNF
      go_upto_region 7 with fail
      go_cut [70] (fun s wc => Hid (s = .bool false) ∧ Hid (Below w3.heap.size w3 wc))
      case first =>
        by_cases hz : E = 0
        · subst hz
          go_wp2_with (first
            | (go_at_call 26; (refine (HAL.out rfl _ (HB3.out.trans (hB6.out.mono HB3.out.size))).mono ?_); rintro e w7 ⟨rfl, hb7⟩; have hB7 := hB6.out.trans (hb7.mono hB6.out.size))
            | fail)
          go_meet
          exact ⟨by show _ = _; simp, hB7⟩
        · have hz1 : (E == 0) = false := by simp; omega
          have hz2 : (E != 0) = true := by simp; omega
          obtain rfl := HBB.out hz
          go_wp2_with fail
          go_meet
          exact ⟨by show _ = _; simp, hB6.out⟩
      case rest =>
        obtain ⟨hs, hB8⟩ := hcut
        have hs1 := hs.out
        subst hs1
        clear hB6 hs HAL HBB
        go_upto_if 148 with (first
          | (go_at_call 27; (refine (CFE.out _).mono ?_); rintro e w8 ⟨rfl, rfl⟩)
          | (go_at_call 25; (refine (CPW.out _).mono ?_); rintro e w9 ⟨⟨v, rfl, hv⟩, rfl⟩; have hv1 : ¬ ((1000000 : Int) < (v : Int)) := by (have h1 := HPW.out; have h2 := hv.1 h1; omega))
          | (go_at_call 28; (refine (CAM.out _).mono ?_); rintro e w10 ⟨rfl, hb10⟩; have HB10 := Lib.hid (hB8.out.trans (hb10.mono hB8.out.size)); clear hb10)
          | (go_at_call 24; (refine (CPE.out _ g (HRG.out.below HB10.out)).mono ?_); rintro e w11 ⟨rfl, hb11⟩; have HB11 := Lib.hid (HB10.out.trans (hb11.mono HB10.out.size)); have hcN := reads_cell0 (HRG.out.below HB11.out) (mon_getN P n k0); clear hb11)
          | (go_at_call 26; (refine (CAL.out k0 _ (some ⟨g, 0, none⟩) M (Nat.le_refl _) (by omega) (by intro h; cases h) (HRG.out.below HB11.out)).mono ?_); rintro e w12 ⟨rfl, hb12⟩; rw [HFB.out]; have HB12 := Lib.hid (HB11.out.trans (hb12.mono HB11.out.size)); clear hb12)
          | fail)
        have HB := Lib.hid (HB3.out.trans (HB12.out.mono HB3.out.size))
        have HRG2 := Lib.hid (HRG.out.below HB12.out)
        clear hB8 HB10 HB11 HB12 HB3 HRG hcN
        obtain ⟨wo, rfl⟩ : ∃ wo, wo = w12 := ⟨_, rfl⟩
        go_wp2_with fail
        go_loopw [14, 15] (fun vt vi wr => ∃ (z : Int) (t i : Nat), vi = .int .i64 z ∧ vt = .int .i64 t ∧ z = (i : Int) - 1 ∧ i ≤ n ∧ Hid (k0 / P ^ i = t) ∧ wo = wr) (fun _ vi _ => (intOf vi + 1).toNat)
        case atStart => exact ⟨(N1 : Int), 0, n, rfl, rfl, by omega, Nat.le_refl _, HK0, rfl⟩
        case round =>
          obtain ⟨z, t, i, rfl, rfl, hz, hi, hT, rfl⟩ := hrel
          by_cases h0 : 0 ≤ z
          · obtain ⟨j, hj⟩ : ∃ j : Nat, z = (j : Int) := ⟨z.toNat, by omega⟩
            subst hj
            obtain rfl : i = j + 1 := by omega
            obtain ⟨d, hd⟩ : ∃ d, dig P k0 j = d := ⟨_, rfl⟩
            have cj := reads_cell0 HRG2.out (mon_get (p := P) (k := k0) (show j < n by omega))
            rw [hd] at cj
            have hs := at_step hT.out hd
            have hsl : k0 / P ^ j ≤ 1000000 := Nat.le_trans (Nat.div_le_self _ _) hk6
            rw [hs] at hsl
            obtain ⟨u, hu⟩ : ∃ u, t * P = u := ⟨_, rfl⟩
            have eu : (t : Int) * (P : Int) = (u : Int) := by rw [← hu, Int.natCast_mul]
            rw [hu] at hs hsl
            obtain ⟨s, hss⟩ : ∃ s, u + d = s := ⟨_, rfl⟩
            have es : (u : Int) + (d : Int) = (s : Int) := by omega
            rw [hss] at hs hsl
            have HT2 := Lib.hid hs
            have hjM : j < M := by omega
            have hjMz : (j : Int) < (M : Int) := by omega
            have hul : u ≤ 1000000 := by omega
            clear hz hd hu hss hs
            go_wp2_with fail
            go_roundw
            case rel => exact ⟨(j : Int) - 1, s, j, by go_num, rfl, rfl, by omega, HT2, by first | rfl | trivial⟩
            case measure => simp [intOf] <;> omega
          · obtain rfl : i = 0 := by omega
            obtain rfl : z = -1 := by omega
            have htk : t = k0 := by have := hT.out; rw [Nat.pow_zero, Nat.div_one] at this; exact this.symm
            subst htk
            clear hT hz
            go_wp2_with fail
            go_loopw [164] (fun vk wr => ∃ k : Nat, vk = .int .i64 k ∧ k ≤ t ∧ Hid (Below w.heap.size w wr)) (fun vk _ => t - (intOf vk).toNat)
            case atStart => exact ⟨0, rfl, Nat.zero_le _, HB⟩
            case round =>
              clear HB HRG2
              obtain ⟨k, rfl, hk, hB⟩ := hrel
              by_cases hkt : k < t
              · have hkz : (k : Int) < (t : Int) := by omega
                have hfs := Lib.hid (HFS.out k hkt)
                go_wp2_with fail
                go_loopw [16, 17, 169] (fun vx vg vi wr => ∃ (i x : Nat), vx = .int .i64 x ∧ vi = .int .i64 i ∧ i ≤ n ∧ x ≤ 1000000 ∧ Hid (k / P ^ i = x) ∧ Hid (wr.ownsRow w.heap.size 3 1 vg i ((dgL P k i).map (Value.int .i64))) ∧ Hid (Below w.heap.size w wr)) (fun _ _ vi _ => n - (intOf vi).toNat)
                case atStart => exact ⟨0, k, rfl, rfl, Nat.zero_le _, by omega, by show k / P ^ 0 = k; simp, own_emptyI _ _ _ hB.out.size, hB.out.alloc hB.out.size _⟩
                case round =>
                  clear hB
                  obtain ⟨i, x, rfl, rfl, hi, hx, hX, hO, hB⟩ := hrel
                  have hSZ : Hid (w.heap.size ≤ wr.heap.size) := hB.out.size
                  by_cases hid : i < n
                  · obtain ⟨r, hr⟩ : ∃ r, x % P = r := ⟨_, rfl⟩
                    obtain ⟨s, hs⟩ : ∃ s, x / P = s := ⟨_, rfl⟩
                    have er : Int.tmod (x : Int) (P : Int) = (r : Int) := by rw [← hr]; exact Int.ofNat_tmod x P
                    have er2 : (x : Int) % (P : Int) = (r : Int) := by rw [← hr]; rfl
                    have es : Int.tdiv (x : Int) (P : Int) = (s : Int) := by rw [← hs]; rfl
                    have es2 : (x : Int) / (P : Int) = (s : Int) := by rw [← hs]; rfl
                    have hp0 : ¬ ((P : Int) = 0) := by omega
                    have hsl : s ≤ 1000000 := by rw [← hs]; exact Nat.le_trans (Nat.div_le_self _ _) hx
                    have HX2 : Hid (k / P ^ (i + 1) = s) := by show _ = _; rw [Nat.pow_succ, ← Nat.div_div_eq_div_mul, hX.out, hs]
                    have HD : Hid (dig P k i = r) := by show _ = _; unfold dig; rw [hX.out, hr]
                    have hidz : (i : Int) < (n : Int) := by omega
                    clear hr hs
                    go_wp2_with (at_builtin; go_must (refine app_one2 rfl (.tmp 171) (.tmp 175) 32 rfl w.heap.size 3 _ 1 8 Try.underlying32 intInfoI u17 i ((dgL P k i).map (Value.int .i64)) (by rfl) hO.out [.int .i64 (r : Int)] (by rfl) rfl (by intro u hu; simp at hu; subst hu; rfl) (by unfold maxLen; omega) (by omega) hSZ.out ?_); intro v1 w1 hl1 hg1 hb1 hk1)
                    go_roundw
                    case rel =>
                      refine ⟨i + 1, s, rfl, by go_num, by omega, hsl, HX2, ?_, hB.out.trans hb1⟩
                      show World.ownsRow _ _ _ _ _ _ _
                      rw [dgL_succ, HD.out, List.map_append]
                      exact hl1
                    case measure => simp [intOf]; omega
                  · obtain rfl : n = i := by omega
                    have HMD := Lib.hid (mon_dg P n k)
                    go_upto_if 185 with (first
                      | (at_builtin; go_must (refine app_one2 rfl (.tmp 182) (.tmp 183) 32 rfl w.heap.size 3 _ 1 8 Try.underlying32 intInfoI u17 n ((dgL P k n).map (Value.int .i64)) (by rfl) hO.out [.int .i64 1] (by rfl) rfl (by intro u hu; simp at hu; subst hu; rfl) (by unfold maxLen; omega) (by omega) hSZ.out ?_); intro v1 w1 hl1 hg1 hb1 hk1; rw [HM.out] at hl1; obtain ⟨ga, gc, rfl, hGr0, hGn, hG1, hG2⟩ := own_dataK hl1; have hGr := Lib.hid (show Reads w1 ga ((mon P n k).map (Value.int .i64)) by rw [HMD.out, List.map_append]; exact hGr0); have hB1 := Lib.hid (hB.out.trans hb1))
                      | (go_at_call 26; (refine (CAL.out k _ ga gc hG1 hG2 hGn hGr).mono ?_); rintro e w14 ⟨rfl, hb14⟩; rw [hfs.out]; have hB14 := Lib.hid (hB1.out.trans (hb14.mono hB1.out.size)))
                      | fail)
                    go_wp2_with fail
                    go_roundw
                    case rel => exact ⟨k + 1, by go_num, by omega, hB14⟩
                    case measure => simp [intOf]; omega
              · go_wp2_with fail
                go_ret
                exact ⟨rfl, hB.out⟩
end Go.Proofs.Ytmeffbooabionaa
namespace Go.Proofs.Ytmeffbooabionaa
open Go.RowKit

theorem irredSays_walk (p : Int) (ao : Option Addr) (nf ca : Nat) (f : List Int) (n : Int) (w : World) (hp : (Lit.int .i64 p).wf = true) (h1 : IntsIn .i64 w ao nf f ∧ CapOk ao nf ca) (hn : (Lit.int .i64 n).wf = true) :
    Calls Try.prog 5 #[.int .i64 p, .slice ao nf ca, .int .i64 n] w fun e w' => e = .returned (.bool true) ∧ Below w.heap.size w w' := by
  by_cases h : irrE p n = 0
  · obtain ⟨a1, a2, a3, a4, a5, a6⟩ := irrE_zero h
    obtain ⟨P, rfl⟩ : ∃ P : Nat, p = (P : Int) := ⟨p.toNat, by omega⟩
    obtain ⟨N, rfl⟩ : ∃ N : Nat, n = (N : Int) := ⟨n.toNat, by omega⟩
    exact irred_good P N ao nf ca f w hp h1 h
  · exact irred_bad p n ao nf ca f w hp h1 hn h
end Go.Proofs.Ytmeffbooabionaa
