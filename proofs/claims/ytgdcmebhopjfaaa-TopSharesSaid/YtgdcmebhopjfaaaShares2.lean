/- TopShares: the walk. -/
import Derived.Test.YtgdcmebhopjfaaaShM9
import Derived.Test.YtgdcmebhopjfaaaShM6
import Derived.Test.YtgdcmebhopjfaaaShM7
import Derived.Test.YtgdcmebhopjfaaaShM3
namespace Go.Proofs.Ytgdcmebhopjfaaa
open Go.RowKit

theorem pr101 : IsPr 101 := ⟨by omega, fun d h2 h => (by decide : ∀ d, d < 101 → 2 ≤ d → ¬ d ∣ 101) d h h2⟩
theorem wf_bd {a : Int} (h : (Lit.int .i64 a).wf = true) : -9223372036854775808 ≤ a ∧ a ≤ 9223372036854775807 := by
  simpa [Lit.wf, IntKind.min, IntKind.max, IntKind.signed, IntKind.bits] using h
theorem wf_of {a : Int} (h : -9223372036854775808 ≤ a ∧ a ≤ 9223372036854775807) : (Lit.int .i64 a).wf = true := by
  simpa [Lit.wf, IntKind.min, IntKind.max, IntKind.signed, IntKind.bits] using h
theorem cells2_take : ∀ (L : List (Value × Value)) (m : Nat), cells2 (L.take m) = (cells2 L).take (m * 2)
  | [], m => by simp [cells2]
  | z :: L, 0 => by simp [cells2]
  | z :: L, m + 1 => by
    have ih := cells2_take L m
    rw [show (m + 1) * 2 = m * 2 + 1 + 1 by omega]
    show z.1 :: z.2 :: cells2 (L.take m) = z.1 :: z.2 :: (cells2 L).take (m * 2)
    rw [ih]
theorem pair_sub {w : World} {b o : Nat} {zs : Pts} (h : Reads w (some ⟨b, o, none⟩) (cells2 (zs.map pV))) (a m : Nat) : Reads w (some ⟨b, o + a * 2, none⟩) (cells2 (((zs.drop a).take m).map pV)) := by
  intro j u hu
  rw [List.map_take, cells2_take, List.getElem?_take] at hu
  split at hu
  · exact pair_drop h a j u hu
  · simp at hu
theorem int_drop {w : World} {b o : Nat} {zs : List Int} (h : Reads w (some ⟨b, o, none⟩) (zs.map (Value.int .i64))) (m : Nat) : Reads w (some ⟨b, o + m, none⟩) ((zs.drop m).map (Value.int .i64)) := by
  intro j u hu
  rw [List.map_drop, List.getElem?_drop] at hu
  obtain ⟨b2, o2, ha, hc⟩ := h _ _ hu
  injection ha with ha
  injection ha with e1 e2
  subst e1 e2
  exact ⟨b, o + m, rfl, by rw [Nat.add_assoc]; exact hc⟩
theorem deal_ok {p s : Int} {t : List Int} {n : Int} (h1 : fldE p = 0) (h2 : t.length ≤ 11) (h3 : 0 ≤ n) (h4 : n ≤ 12) (h5 : n < p) (h6 : ∀ x ∈ s :: t, 0 ≤ x ∧ x < p) : dealE p s t n = 0 := by
  have ha : (s :: t).any (outF p) = false := by
    rw [List.any_eq_false]
    intro x hx
    have := h6 x hx
    unfold outF
    simp; omega
  unfold dealE
  rw [if_neg (by omega), if_neg (by omega), if_neg (by omega), ha, if_neg (by simp)]
theorem own_formK {w : World} {base e size : Nat} {v : Value} {n K : Nat} {xs : List Value} (h : w.ownsRow base e size v n xs) (hx : xs ≠ []) (hK : n = K) : ∃ g cap, v = .slice (some ⟨g, 0, none⟩) K cap ∧ w.ownsRow base e size (.slice (some ⟨g, 0, none⟩) K cap) K xs := by
  subst hK
  obtain ⟨g, cap, rfl⟩ := own_form h hx
  exact ⟨g, cap, rfl, h⟩
theorem reads_cell {w : World} {b o : Nat} {xs : List Value} (h : Reads w (some ⟨b, o, none⟩) xs) {i : Nat} {u : Value} (hi : xs[i]? = some u) : w.cell? ⟨b, o + i, none⟩ = some u := by
  obtain ⟨b2, o2, ha, hc⟩ := h i u hi
  injection ha with ha
  injection ha with e1 e2
  subst e1 e2
  exact hc
set_option maxRecDepth 20000 in
set_option maxHeartbeats 1000000 in
theorem thr_on (p : Int) (F : List Int) (l : Pts) (n : Nat) (ao : Option Addr) (cap : Nat) (w : World) (OP : PtsOk p l) (hp : (Lit.int .i64 p).wf = true) (hl : l.length = n) (hc : n ≤ cap) (hR : Hid (Reads w ao (cells2 (l.map pV)))) (hF : InF p F) (hFl : F.length ≤ n) (hon : OnF p F l) {tr : List Int} {g : Nat} (ht : trim F = tr) (hg : tr.length = g) :
    Calls Try.prog 16 #[.int .i64 p, .slice ao n cap] w fun e w' => ∃ a k, e = .returned (.tuple #[.slice a g k, .int .i64 0]) ∧ Below w.heap.size w w' ∧ Reads w' a (tr.map (Value.int .i64)) := by
  refine (points_Through p l n ao cap w hp hl hc hR (ptsE_ok OP)).mono ?_
  rintro e w1 ⟨h, v, hthr, hb1, rfl, hown⟩
  obtain ⟨a1, k1, rfl, r1, n1, kk1, kk2⟩ := own_data hown
  have hh : h = tr := by rw [thr_uniq OP hthr hF (by omega) hon, ht]
  subst hh
  subst hg
  exact ⟨a1, k1, rfl, hb1, r1⟩
theorem polyAt_on (p : Int) (F : List Int) (x : Int) (ao : Option Addr) (cap : Nat) (w : World) (h1 : 2 ≤ p) (h2 : p ≤ 997) (h3 : IsPr p.toNat) (hp : (Lit.int .i64 p).wf = true) (hx : (Lit.int .i64 x).wf = true) (hF : InF p F) (hFl : F.length ≤ 40) {tr : List Int} {g : Nat} (ht : trim F = tr) (hg : tr.length = g) (hR : Reads w ao (tr.map (Value.int .i64))) :
    Calls Try.prog 18 #[.int .i64 p, .slice ao g cap, .int .i64 x] w fun e w' => e = .returned (.tuple #[.int .i64 (evp (x % p) F % p), .int .i64 0]) ∧ Below w.heap.size w w' := by
  subst ht
  have h := poly_At p (trim F) x ao g cap w hp hx hg (ints_B0 hR) hR (trim_ok h1 h2 h3 hFl hF)
  rwa [evp_trim] at h
theorem short_on (F : List Int) (n : Nat) (ao : Option Addr) (cap : Nat) (w : World) (hn : n ≤ 1000000000) (hl : F.length = n) (hc : n ≤ cap) (hc2 : cap ≤ 9223372036854775807) (hnone : ao = none → n = 0 ∧ cap = 0) (hR : Hid (Reads w ao (F.map (Value.int .i64)))) {tr : List Int} {g : Nat} (ht : trim F = tr) (hg : tr.length = g) :
    Calls Try.prog 22 #[.slice ao n cap] w fun e w' => ∃ a k, e = .returned (.slice a g k) ∧ Below w.heap.size w w' ∧ Reads w' a (tr.map (Value.int .i64)) := by
  refine (ref_Short F n ao cap w.heap.size w hn hl hc hc2 hnone hR (Nat.le_refl _)).mono ?_
  rintro e w1 ⟨v, rfl, hown, hb1⟩
  subst ht
  subst hg
  obtain ⟨a1, k1, rfl, r1, n1, kk1, kk2⟩ := own_data hown
  exact ⟨a1, k1, rfl, hb1, r1⟩
theorem equal_on (zs : List Int) (n : Nat) (ao bo : Option Addr) (ca cb : Nat) (w : World) (hl : zs.length = n) (h63 : n ≤ 9223372036854775807) (hX : Reads w ao (zs.map (Value.int .i64))) (hY : Reads w bo (zs.map (Value.int .i64))) :
    Calls Try.prog 21 #[.slice ao n ca, .slice bo n cb] w fun e w' => e = .returned (.bool true) ∧ ∃ m, w' = w.drewN m := by
  have h := equal_int zs zs ao bo ca cb w (by omega) (by omega) hX hY
  rw [hl, decide_eq_true rfl] at h
  exact h
set_option maxRecDepth 100000 in
set_option maxHeartbeats 4000000 in
theorem topShares_walk (n s : Int) (ao : Option Addr) (nt ca : Nat) (tape : List Int) (x : Int) (w : World) (hn : (Lit.int .i64 n).wf = true) (hs : (Lit.int .i64 s).wf = true) (h1 : IntsIn .i64 w ao nt tape ∧ CapOk ao nt ca) (hx : (Lit.int .i64 x).wf = true) :
    Calls Try.prog 3 #[.int .i64 n, .int .i64 s, .slice ao nt ca, .int .i64 x] w fun e w' => e = .returned (.bool true) ∧ Below w.heap.size w w' := by
  obtain ⟨⟨hlt, h63, hwf, hT'⟩, hna, hca, hca2⟩ := h1
  obtain ⟨L', hL'⟩ : ∃ L', tape.take 8 = L' := ⟨_, rfl⟩
  obtain ⟨m, hm⟩ : ∃ m, L'.length = m := ⟨_, rfl⟩
  have hm8 : m ≤ 8 ∧ m ≤ nt := by rw [← hm, ← hL', List.length_take]; omega
  have hmin : m = min nt 8 := by rw [← hm, ← hL', List.length_take]; omega
  have hT8 := Lib.hid (reads_take hT' 8)
  rw [hL'] at hT8
  have HLI : Hid (∀ z ∈ s :: L', -9223372036854775808 ≤ z ∧ z ≤ 9223372036854775807) := Lib.hid fun z hz => by
    rcases List.mem_cons.1 hz with rfl | h
    · exact wf_bd hs
    · exact wf_bd (hwf z (List.mem_of_mem_take (by rw [hL']; exact h)))
  have HM := Lib.hid hm
  have bn := wf_bd hn
  have CW := Lib.hid (fun X => keep_Within n 897 X bn.1 bn.2 (by omega) (by omega))
  obtain ⟨v, hv⟩ : ∃ v, n % 897 = v := ⟨_, rfl⟩
  have hv0 : 0 ≤ v ∧ v < 897 := by rw [← hv]; exact ⟨Int.emod_nonneg _ (by omega), Int.emod_lt_of_pos _ (by omega)⟩
  rw [hv] at CW
  have hw1 : IntKind.i64.wrap (101 + v) = 101 + v := IntWalk.i64_in _ (by omega)
  have HX := Lib.hid hx
  have HNA := Lib.hid hna
  have HLT := Lib.hid hlt
  clear hn hs hx hwf hT' hv bn hL' hm hlt
  go_enter Try.func3, Try.ntmps3
  go_wp2_with (go_at_call 12; refine (CW.out _).mono ?_; rintro e w1 ⟨rfl, m1, rfl⟩)
  go_loopw [9] (fun vp wr => ∃ q : Nat, vp = .int .i64 q ∧ 101 ≤ q ∧ q ≤ 997 ∧ Hid (Below w.heap.size w wr)) (fun vp _ => (intOf vp).toNat)
  case atStart => exact ⟨(101 + v).toNat, by congr 1; omega, by omega, by omega, Lib.hid (below_drewN (Below.refl _ _) _)⟩
  case round =>
    obtain ⟨q, rfl, hq1, hq2, hb⟩ := hrel
    have CP := Lib.hid (fun X => ref_Prime q X (by omega))
    cases hpr : prB q with
    | false =>
      have hq3 : 101 < q := by
        rcases Nat.lt_or_ge 101 q with h | h
        · exact h
        · have : q = 101 := by omega
          subst this
          exact absurd pr101 (prB_iff'.1 hpr)
      have w2 : IntKind.i64.wrap ((q : Int) - 1) = (q : Int) - 1 := IntWalk.i64_in _ (by omega)
      rw [hpr] at CP
      clear hpr
      go_wp2_with (go_at_call 13; refine (CP.out _).mono ?_; rintro e w' ⟨rfl, rfl⟩)
      go_roundw
      case rel => exact ⟨q - 1, by go_num, by omega, by omega, hb⟩
      case measure => simp [intOf]; omega
    | true =>
      have HPR := Lib.hid (prB_iff.1 hpr)
      rw [hpr] at CP
      clear hpr
      obtain ⟨K, hK⟩ : ∃ K, 1 + m = K := ⟨_, rfl⟩
      have hown1 : Hid ((wr.alloc (.cells #[.int .i64 s] 3)).ownsRow wr.heap.size 3 1 (.slice (some ⟨wr.heap.size, 0, none⟩) 1 1) 1 [.int .i64 s]) := own_lit wr wr.heap.size 3 [.int .i64 s] (Nat.le_refl _) (by unfold maxLen; simp)
      have hb1 : Hid (Below wr.heap.size wr (wr.alloc (.cells #[.int .i64 s] 3))) := (Below.refl _ wr).alloc (Nat.le_refl _) _
      have hR1 : Hid (Reads (wr.alloc (.cells #[.int .i64 s] 3)) ao (L'.map (Value.int .i64))) := (hT8.out.below hb.out).below hb1.out
      have HL1 : Hid ((L'.map (Value.int .i64)).length = m * 1) := by show _ = _; rw [List.length_map, HM.out, Nat.mul_one]
      have HN1 : Hid (ao = none → m = 0 ∧ ca = 0) := fun h => by have := HNA.out h; omega
      have HI1 : Hid (∀ u ∈ L'.map (Value.int .i64), u.oneCell' = true) := ints_one .i64 L'
      have hKm : Hid (1 + m = K) := hK
      clear hK
      have hcase : (ao = none ∧ nt = 0 ∧ ca = 0 ∧ m = 0) ∨ (∃ a, ao = some a ∧ ¬ (8 : Int) < (nt : Int) ∧ m = nt) ∨ (∃ a, ao = some a ∧ (8 : Int) < (nt : Int) ∧ m = 8) := by
        cases ao with
        | none => have := HNA.out rfl; exact .inl ⟨rfl, by omega, by omega, by omega⟩
        | some a =>
          rcases Nat.lt_or_ge 8 nt with h | h
          · exact .inr (.inr ⟨a, rfl, by omega, by omega⟩)
          · exact .inr (.inl ⟨a, rfl, by omega, by omega⟩)
      have hK9 : 1 ≤ K ∧ K ≤ 9 := by have := hKm.out; omega
      have HL : Hid ((s :: L').length = K) := by show _ = _; rw [List.length_cons, HM.out, ← hKm.out, Nat.add_comm]
      clear hmin hm8 hna hv0 hw1
      rcases hcase with ⟨rfl, rfl, rfl, rfl⟩ | ⟨a, rfl, n8, rfl⟩ | ⟨a, rfl, n8, rfl⟩
      all_goals
        go_wp2_with (first | (go_at_call 13; refine (CP.out _).mono ?_; rintro e w' ⟨rfl, rfl⟩) | (at_builtin; go_must (refine app_all rfl (.tmp 34) (.tmp 39) _ rfl wr.heap.size 3 _ 1 8 Try.underlying22 intRow _ 1 [.int .i64 s] (by rfl) hown1.out _ _ _ (L'.map (Value.int .i64)) (by rfl) (by intro h; first | exact ⟨rfl, rfl⟩ | cases h) HL1.out hR1.out HI1.out (by unfold maxLen; omega) (by omega) hb1.out.size ?_); intro v2 w2 hown2 hgr2 hb2; obtain ⟨G, cp, rfl, hO2⟩ := own_formK hown2 (by simp) hKm.out))
        have hr2 : Hid (Reads w2 (some ⟨G, 0, none⟩) ((s :: L').map (Value.int .i64))) := by
          obtain ⟨ao2, c2, hv, hR, _, _⟩ := own_reads hO2
          cases hv
          exact hR
        have hB2 : Hid (Below w.heap.size w w2) := hb.out.trans ((hb1.out.trans hb2).mono hb.out.size)
        clear hown2 hgr2 hb2 hO2 hown1 hb1 hR1 HL1 HN1 HI1 hb CP
        go_loopw [10, 42] (fun vf vi wr => ∃ i : Nat, vi = .int .i64 i ∧ i ≤ K ∧ Hid (wr.ownsRow w2.heap.size 3 1 vf i ((((s :: L').take i).map (· % (q : Int))).map (Value.int .i64))) ∧ Hid (Below w2.heap.size w2 wr)) (fun _ vi _ => K - (intOf vi).toNat)
        case atStart => exact ⟨0, rfl, by omega, World.ownsRow_nil _ _ _ _, Below.refl _ _⟩
        case round =>
          obtain ⟨i, rfl, hi, hO, hbw⟩ := hrel
          by_cases hik : i < K
          · obtain ⟨z, hz⟩ : ∃ z, (s :: L')[i]? = some z := ⟨_, List.getElem?_eq_getElem (show i < (s :: L').length by rw [HL.out]; exact hik)⟩
            have zb := HLI.out z (List.mem_of_getElem? hz)
            have c1 := reads_cell (hr2.out.below hbw.out) (i := i) (u := .int .i64 z) (by rw [List.getElem?_map, hz]; rfl)
            rw [Nat.zero_add] at c1
            have HW := Lib.hid (fun X => keep_Within z q X zb.1 zb.2 (by omega) (by omega))
            have HS : Hid ((((s :: L').take (i + 1)).map (· % (q : Int))).map (Value.int .i64) = (((s :: L').take i).map (· % (q : Int))).map (Value.int .i64) ++ [.int .i64 (z % q)]) := by show _ = _; rw [List.take_add_one, hz]; simp
            obtain ⟨r, hr⟩ : ∃ r, z % (q : Int) = r := ⟨_, rfl⟩
            rw [hr] at HW HS
            clear hz hr zb
            go_wp2_with (first
              | (go_at_call 12; refine (HW.out _).mono ?_; rintro e w' ⟨rfl, m5, rfl⟩; have hown2 := Lib.hid (own_below hO.out (below_dr wr.heap.size wr m5)); have hb5 := Lib.hid (below_drewN hbw.out m5); obtain ⟨wq, hwq⟩ : ∃ wq, wr.drewN m5 = wq := ⟨_, rfl⟩; rw [hwq] at hown2 hb5 ⊢; clear hwq)
              | (at_builtin; go_must (refine app_one rfl (.tmp 46) (.tmp 50) 22 rfl w2.heap.size 3 _ 1 8 Try.underlying22 intRow _ i _ (by rfl) hown2.out [.int .i64 r] (by rfl) rfl (by intro u hu; simp at hu; subst hu; rfl) (by unfold maxLen; omega) (by omega) hb5.out.size ?_); intro v6 w6 hown6 hgr6 hb6))
            have hrow6 : Hid (w6.ownsRow w2.heap.size 3 1 v6 (i + 1) ((((s :: L').take (i + 1)).map (· % (q : Int))).map (Value.int .i64))) := by
              show World.ownsRow _ _ _ _ _ _ _
              rw [HS.out]; exact hown6
            have hb7 := Lib.hid (hb5.out.trans hb6)
            clear hown6 hgr6 hb6
            go_roundw
            case rel => exact ⟨i + 1, by go_num, by omega, hrow6, hb7⟩
            case measure => simp [intOf]; omega
          · obtain rfl : K = i := by omega
            obtain ⟨F', hF'⟩ : ∃ F', L'.map (· % (q : Int)) = F' := ⟨_, rfl⟩
            obtain ⟨f0, hf0⟩ : ∃ f0, s % (q : Int) = f0 := ⟨_, rfl⟩
            have e0 : ((s :: L').take K).map (· % (q : Int)) = f0 :: F' := by rw [← HL.out, List.take_length, List.map_cons, hf0, hF']
            have hO1 := hO.out
            rw [e0] at hO1
            obtain ⟨gf, cf, rfl, hOf⟩ := own_formK hO1 (by simp) rfl
            obtain ⟨af, kf, hv, hRf, _, k1, k2⟩ := own_data hOf
            cases hv
            have hl' : F'.length + 1 = K := by rw [← hF', List.length_map]; exact HL.out
            have hin : ∀ x ∈ f0 :: F', 0 ≤ x ∧ x < (q : Int) := by
              rw [← e0]
              intro x hx
              obtain ⟨y, _, rfl⟩ := List.mem_map.1 hx
              exact ⟨Int.emod_nonneg _ (by omega), Int.emod_lt_of_pos _ (by omega)⟩
            have hp2 : fldE (q : Int) = 0 := fldE_zero (by omega) (by omega) HPR.out
            have hpw : (Lit.int .i64 (q : Int)).wf = true := wf_of ⟨by omega, by omega⟩
            obtain ⟨M, hM⟩ : ∃ M, K - 1 = M := ⟨_, rfl⟩
            obtain ⟨T, hT⟩ : ∃ T, K + 2 = T := ⟨_, rfl⟩
            have hB3 : Hid (Below w.heap.size w wr) := hB2.out.trans (hbw.out.mono hB2.out.size)
            have hRt : Hid (Reads wr (if cf = 1 then some ⟨gf, 0, none⟩ else some ⟨gf, 1, none⟩) (F'.map (Value.int .i64))) := by
              show Reads _ _ _
              by_cases h1 : cf = 1
              · have : F' = [] := List.eq_nil_of_length_eq_zero (by omega)
                rw [this]
                exact Reads.nil _ _
              · rw [if_neg h1]
                exact int_drop hRf 1
            obtain ⟨AF, hAF⟩ : ∃ AF, (if cf = 1 then some (⟨gf, 0, none⟩ : Addr) else some ⟨gf, 1, none⟩) = AF := ⟨_, rfl⟩
            rw [hAF] at hRt
            have CD : Hid (∀ X, Below wr.heap.size wr X → Calls Try.prog 14 #[.int .i64 q, .int .i64 f0, .slice AF M (cf - 1), .int .i64 T] X (DealPost q (f0 :: F') T X)) := fun X hX => by
              have h := secret_Deal q f0 F' (T : Int) M AF (cf - 1) X hpw (by omega) (by omega) (fun h => by rw [← hAF] at h; split at h <;> cases h) (hRt.out.below hX) (deal_ok hp2 (by omega) (by omega) (by omega) (by omega) hin)
              rwa [Int.toNat_natCast] at h
            have c0 : wr.cell? ⟨gf, 0, none⟩ = some (.int .i64 f0) := reads_cell hRf (i := 0) rfl
            have HRF := Lib.hid hRf
            have w3 : IntKind.i64.wrap ((K : Int) + 2) = (T : Int) := by rw [← hT]; push_cast; exact IntWalk.i64_in _ (by omega)
            have HIN := Lib.hid hin
            have HP2 := Lib.hid hp2
            have HPW := Lib.hid hpw
            have HFL := Lib.hid hl'
            have HT := Lib.hid hT
            clear hF' hf0 e0 hO1 hOf hRf hl' hin hp2 hpw hT hO hr2 hT8 HLI HM HL HLT HNA CW
            have kp1 : 0 < K := by omega
            have kp2 : (0 : Int) < (K : Int) := by omega
            have kp3 : (1 : Int) ≤ (K : Int) := by omega
            have kp4 : 1 ≤ K := by omega
            go_wp2_with fail
            go_region_law (first | (go_simp; go_at_call 14; (with_reducible refine (CD.out _ ?_).mono ?_); (focus (repeat (first | (with_reducible exact Below.refl _ _) | (with_reducible apply below_drew1) | (with_reducible apply below_drewN) | fail))); rintro e w5 ⟨GL, cL, rfl, gl1, gl2, rG, hb5⟩))
            all_goals
              have hB5 : Hid (Below w.heap.size w w5) := hB3.out.trans (((below_drew1 (Below.refl _ wr)).trans hb5).mono hB3.out.size)
              have hRf5 : Hid (Reads w5 (some ⟨gf, 0, none⟩) ((f0 :: F').map (Value.int .i64))) := (HRF.out.below (below_drew1 (Below.refl _ wr))).below hb5
              have c5 : w5.cell? ⟨gf, 0, none⟩ = some (.int .i64 f0) := reads_cell hRf5.out (i := 0) rfl
              have hFl : (f0 :: F').length = K := HFL.out
              have hT2 : T - 2 = K := by have := HT.out; omega
              have hT3 : 2 ≤ T ∧ T ≤ 11 := by have := HT.out; omega
              obtain ⟨A1, A2, A3, _⟩ := deal_sub (p := (q : Int)) (f := f0 :: F') (n := T) (by omega) (by omega) HPR.out (by omega) (by omega) 0 T (by omega)
              obtain ⟨B1, B2, B3, _⟩ := deal_sub (p := (q : Int)) (f := f0 :: F') (n := T) (by omega) (by omega) HPR.out (by omega) (by omega) 2 K (by omega)
              obtain ⟨C1, C2, C3, C4⟩ := deal_sub (p := (q : Int)) (f := f0 :: F') (n := T) (by omega) (by omega) HPR.out (by omega) (by omega) 1 K (by omega)
              obtain ⟨D1, D2, D3, _⟩ := deal_sub (p := (q : Int)) (f := f0 :: F') (n := T) (by omega) (by omega) HPR.out (by omega) (by omega) 0 K (by omega)
              have RA : Reads w5 (some ⟨GL, 0, none⟩) _ := pair_sub rG 0 T
              have RB : Reads w5 (some ⟨GL, 4, none⟩) _ := pair_sub rG 2 K
              have RC : Reads w5 (some ⟨GL, 2, none⟩) _ := pair_sub rG 1 K
              have RD : Reads w5 (some ⟨GL, 0, none⟩) _ := pair_sub rG 0 K
              obtain ⟨tr, htr⟩ : ∃ tr, trim (f0 :: F') = tr := ⟨_, rfl⟩
              obtain ⟨g, hg⟩ : ∃ g, tr.length = g := ⟨_, rfl⟩
              have hgK : g ≤ K := by rw [← hg, ← htr, length_trim, ← hFl]; exact tlen_le _
              have CA := Lib.hid (fun X (hX : Below w5.heap.size w5 X) => thr_on q (f0 :: F') _ T (some ⟨GL, 0, none⟩) cL X A1 HPW.out A3 gl1 (RA.below hX) HIN.out (by omega) A2 htr hg)
              have CB := Lib.hid (fun X (hX : Below w5.heap.size w5 X) => thr_on q (f0 :: F') _ K (some ⟨GL, 4, none⟩) (cL - 2) X B1 HPW.out B3 (by omega) (RB.below hX) HIN.out (by omega) B2 htr hg)
              have CJ := Lib.hid (fun X (hX : Below w5.heap.size w5 X) => secret_Join_on q (f0 :: F') _ K (some ⟨GL, 2, none⟩) (cL - 1) X C1 HPW.out C3 (by omega) (by omega) (RC.below hX) HIN.out (by omega) C2 C4)
              have CV := Lib.hid (fun X (hX : Below w5.heap.size w5 X) => points_At_on q (f0 :: F') _ x K (some ⟨GL, 0, none⟩) cL X D1 HPW.out HX.out D3 (by omega) (RD.below hX) HIN.out (by omega) D2)
              have CP := Lib.hid (fun X a k hr => polyAt_on q (f0 :: F') x a k X (by omega) (by omega) HPR.out HPW.out HX.out HIN.out (by omega) htr hg hr)
              have CS := Lib.hid (fun X (hX : Below w5.heap.size w5 X) => short_on (f0 :: F') K (some ⟨gf, 0, none⟩) cf X (by omega) hFl k1 k2 (fun h => by cases h) (hRf5.out.below hX) htr hg)
              have CE := Lib.hid (fun X a b ca cb hx hy => equal_on tr g a b ca cb X hg (by omega) hx hy)
              obtain ⟨Y, hY⟩ : ∃ Y, evp (x % (q : Int)) (f0 :: F') % (q : Int) = Y := ⟨_, rfl⟩
              have hz0 : co (f0 :: F') 0 = f0 := rfl
              rw [hY] at CV CP
              rw [hz0] at CJ
              obtain ⟨U, hU⟩ : ∃ U, K + 1 = U := ⟨_, rfl⟩
              have w4 : IntKind.i64.wrap ((K : Int) + 1) = (U : Int) := by rw [← hU]; push_cast; exact IntWalk.i64_in _ (by omega)
              have hU1 : U - 1 = K := by omega
              have q1 : (2 : Int) ≤ (T : Int) := by omega
              have q2 : 2 ≤ T := by omega
              have q3 : (1 : Int) ≤ (U : Int) := by omega
              have q4 : 1 ≤ U := by omega
              have q5 : (U : Int) ≤ (cL : Int) := by omega
              have q6 : U ≤ cL := by omega
              have q7 : (K : Int) ≤ (cL : Int) := by omega
              have q8 : K ≤ cL := by omega
              have q9 : ¬ cL = 2 := by omega
              have q0 : ¬ cL = 1 := by omega
              clear hY hz0 htr hg A1 A2 A3 B1 B2 B3 C1 C2 C3 C4 D1 D2 D3 RA RB RC RD hU rG hb5 hFl hRt CD HRF HIN HP2 HPW HFL HT hT3 hM c0 hgK
              go_wp2_with (first
                | (go_at_call 15; refine (top_works _).mono ?_; rintro e w6 ⟨rfl, b6⟩)
                | (go_at_call 16; with_reducible refine (CA.out _ b6).mono ?_; rintro e w7 ⟨a7, c7, rfl, s7, r7⟩; have b7 := b6.trans (s7.mono b6.size))
                | (go_at_call 16; with_reducible refine (CB.out _ b7).mono ?_; rintro e w8 ⟨a8, c8, rfl, s8, r8⟩; have b8 := b7.trans (s8.mono b7.size); have r78 := r7.below s8)
                | (go_at_call 17; with_reducible refine (CJ.out _ b8).mono ?_; rintro e w9 ⟨rfl, s9⟩; have b9 := b8.trans (s9.mono b8.size); have r79 := r78.below s9; have r89 := r8.below s9)
                | (go_at_call 18; with_reducible refine (CP.out _ a7 c7 r79).mono ?_; rintro e w10 ⟨rfl, s10⟩; have b10 := b9.trans (s10.mono b9.size); have r710 := r79.below s10; have r810 := r89.below s10)
                | (go_at_call 19; with_reducible refine (CV.out _ b10).mono ?_; rintro e w11 ⟨rfl, s11⟩; have b11 := b10.trans (s11.mono b10.size); have r711 := r710.below s11; have r811 := r810.below s11)
                | (go_at_call 20; refine (good_five _ _ _ (Lib.hid (reads_new w11 #[.int .i64 0, .int .i64 0, .int .i64 0, .int .i64 0, .int .i64 0] _))).mono ?_; rintro e w12 ⟨rfl, m12, hw12⟩; have s12 : Below w11.heap.size w11 w12 := by rw [hw12]; exact below_drewN ((Below.refl _ w11).alloc (Nat.le_refl _) _) m12
                   clear hw12; have b12 := b11.trans (s12.mono b11.size); have r712 := r711.below s12; have r812 := r811.below s12)
                | (go_at_call 21; with_reducible refine (CE.out _ a7 a8 c7 c8 r712 r812).mono ?_; rintro e w13 ⟨rfl, m13, hw13⟩; have s13 : Below w12.heap.size w12 w13 := by rw [hw13]; exact below_drewN (Below.refl _ _) m13
                   clear hw13; have b13 := b12.trans (s13.mono b12.size); have r713 := r712.below s13)
                | (go_at_call 22; with_reducible refine (CS.out _ b13).mono ?_; rintro e w14 ⟨a14, c14, rfl, s14, r14⟩; have b14 := b13.trans (s14.mono b13.size); have r714 := r713.below s14)
                | (go_at_call 21; with_reducible refine (CE.out _ a7 a14 c7 c14 r714 r14).mono ?_; rintro e w15 ⟨rfl, m15, hw15⟩; have s15 : Below w14.heap.size w14 w15 := by rw [hw15]; exact below_drewN (Below.refl _ _) m15
                   clear hw15; have b15 := b14.trans (s15.mono b14.size); have c15 := (b15.cell (World.block_lt_of_cell? _ _ c5)).trans c5)
                | fail)
              go_ret
              exact ⟨by simp, hB5.out.trans (b15.mono hB5.out.size)⟩
end Go.Proofs.Ytgdcmebhopjfaaa
