/- IrredSays: the walk, where First and Count say what is wrong. (Printed by wip/tools/gen_irrj.py.) -/
import Derived.Test.YtmeffbooabionaaIrrG
import Derived.Test.YtmeffbooabionaaIrrI
import Derived.Test.YtmeffbooabionaaIrrD
import Derived.Deep.CutBlock
import Derived.Deep.DeepCutAuto
set_option linter.unusedVariables false
set_option linter.unusedSimpArgs false
namespace Go.Proofs.Ytmeffbooabionaa
open Go.RowKit

theorem polE_okI {p : Int} {f : List Int} (h : PolOk p f) : polE p f = 0 := by
  unfold polE
  rw [fldE_zero h.p1 h.p2 h.pr, if_neg (by omega), if_neg (by have := h.len; omega)]
  have ha : f.any (outF p) = false := by
    rw [List.any_eq_false]
    intro x hx
    have := h.inF x hx
    unfold outF
    simp
    omega
  rw [ha, if_neg (by simp), if_neg]
  rintro ⟨h0, h1⟩
  rcases h.trm with h2 | h2
  · omega
  · exact h2 h1
/-- What PolyErr says, and what Is says behind it. -/
theorem isE_cases (p : Int) (f : List Int) : (polE p f ≠ 0 ∧ isE p f = polE p f) ∨ (polE p f = 0 ∧ 2 ≤ p ∧ p ≤ 997 ∧ 1000000 < p.toNat ^ (f.length / 2 + 1) ∧ isE p f = 2) ∨ (polE p f = 0 ∧ 2 ≤ p ∧ p ≤ 997 ∧ p.toNat ^ (f.length / 2 + 1) ≤ 1000000 ∧ isE p f = 0) := by
  by_cases h : polE p f = 0
  · have OF := polOk_of h
    right
    by_cases hb : 1000000 < p.toNat ^ (f.length / 2 + 1)
    · left; exact ⟨h, OF.p1, OF.p2, hb, by unfold isE; rw [if_pos h, if_pos hb]⟩
    · right; exact ⟨h, OF.p1, OF.p2, by omega, by unfold isE; rw [if_pos h, if_neg hb]⟩
  · left; exact ⟨h, by unfold isE; rw [if_neg h]⟩
theorem irrE_cases {p n : Int} (hne : irrE p n ≠ 0) : (fldE p = 1 ∧ irrE p n = 1) ∨ (fldE p = 0 ∧ n < 1 ∧ irrE p n = 1) ∨ (fldE p = 0 ∧ ¬ n < 1 ∧ 39 < n ∧ irrE p n = 1) ∨ (fldE p = 0 ∧ ¬ n < 1 ∧ ¬ 39 < n ∧ 2 ≤ p ∧ p ≤ 997 ∧ 1000000 < p.toNat ^ n.toNat ∧ irrE p n = 2) := by
  rcases fldE_cases p with ⟨h0, h1, h2, h3⟩ | h0
  · right
    by_cases a : n < 1
    · left; exact ⟨h0, a, by unfold irrE; rw [if_pos h0, if_pos (.inl a)]⟩
    · right
      by_cases b : 39 < n
      · left; exact ⟨h0, a, b, by unfold irrE; rw [if_pos h0, if_pos (.inr b)]⟩
      · right
        by_cases c : 1000000 < p.toNat ^ n.toNat
        · exact ⟨h0, a, b, h1, h2, c, by unfold irrE; rw [if_pos h0, if_neg (by omega), if_pos c]⟩
        · exfalso; apply hne; unfold irrE; rw [if_pos h0, if_neg (by omega), if_neg c]
  · left; exact ⟨h0, by unfold irrE; rw [if_neg (by omega)]⟩
set_option maxRecDepth 100000 in
set_option maxHeartbeats 16000000 in
theorem irred_bad (p n : Int) (ao : Option Addr) (nf ca : Nat) (f : List Int) (w : World) (hp : (Lit.int .i64 p).wf = true) (h1 : IntsIn .i64 w ao nf f ∧ CapOk ao nf ca) (hn : (Lit.int .i64 n).wf = true) (hne : irrE p n ≠ 0) :
    Calls Try.prog 5 #[.int .i64 p, .slice ao nf ca, .int .i64 n] w fun e w' => e = .returned (.bool true) ∧ Below w.heap.size w w' := by
  obtain ⟨⟨hlf, h63, _, hF'⟩, hna, hca, hca2⟩ := h1
  have hF := Lib.hid hF'
  have CE := Lib.hid (fun W (hb : Below w.heap.size w W) => ref_PolyErr p f ao nf ca W hp hlf h63 (hF.out.below hb))
  have CI := Lib.hid (irr_Is p f ao nf ca w hp hlf h63 hna hF)
  have CFE := Lib.hid (fun W => ref_FieldErr p W hp)
  have HCASE := Lib.hid (isE_cases p f)
  have HALN : Hid (isE p f = 0 → ∀ W, Below w.heap.size w W → Calls Try.prog 26 #[.int .i64 p, .slice ao nf ca] W fun e w' => e = .returned (.bool (irrB p.toNat f)) ∧ Below W.heap.size W w') := by
    intro h0 W hb
    obtain ⟨OF, hpw⟩ := isE_zero h0
    have q1 := OF.p1
    have hPn : ((p.toNat : Nat) : Int) = p := by omega
    have := ref_Alone p.toNat f nf ao ca W (by rw [hPn]; exact OF) hpw hlf hca hca2 hna (hF.out.below hb)
    rw [hPn] at this
    exact this
  rw [hlf] at HCASE
  obtain ⟨E, hE⟩ : ∃ E, isE p f = E := ⟨_, rfl⟩
  obtain ⟨E0, hE0⟩ : ∃ E0, polE p f = E0 := ⟨_, rfl⟩
  obtain ⟨q, hq⟩ : ∃ q, nf / 2 + 1 = q := ⟨_, rfl⟩
  rw [hE] at CI HCASE HALN
  rw [hE0] at CE HCASE
  rw [hq] at HCASE
  have HNF : Hid (E0 = 0 → nf ≤ 40) := fun h => by rw [← hlf]; exact (polOk_of (hE0.trans h)).len
  obtain ⟨b, hb⟩ : ∃ b, (if E = 0 then irrB p.toNat f else false) = b := ⟨_, rfl⟩
  rw [hb] at CI
  have HBB : Hid (E ≠ 0 → b = false) := fun h => by rw [← hb, if_neg h]
  have HAL : Hid (E = 0 → ∀ W, Below w.heap.size w W → Calls Try.prog 26 #[.int .i64 p, .slice ao nf ca] W fun e w' => e = .returned (.bool b) ∧ Below W.heap.size W w') := fun h => by rw [← hb, if_pos h]; exact HALN h
  have HQ := Lib.hid hq
  obtain ⟨B5, hB5⟩ : ∃ B5, decide (E ≠ E0) = B5 := ⟨_, rfl⟩
  have HD5 := Lib.hid hB5
  clear hB5
  have CF := Lib.hid (fun W => irr_First_bad p n W hp hne)
  have CC := Lib.hid (fun W => irr_Count_bad p n W hp hne)
  have HC2 := Lib.hid (irrE_cases hne)
  obtain ⟨E2, hE2⟩ : ∃ E2, irrE p n = E2 := ⟨_, rfl⟩
  obtain ⟨F, hFF⟩ : ∃ F, fldE p = F := ⟨_, rfl⟩
  rw [hE2] at CF CC HC2 hne
  rw [hFF] at HC2 CFE
  clear hE hE0 hq hb hE2 hFF hF' hlf hna hca hca2 HALN
  go_enter Try.func5, Try.ntmps5
  go_upto_region 5 with (first
    | (go_at_call 21; (refine CI.out.mono ?_); rintro e w1 ⟨rfl, hb1⟩)
    | (go_at_call 22; (refine (CF.out _).mono ?_); rintro e w2 ⟨rfl, rfl⟩)
    | (go_at_call 23; (refine (CC.out _).mono ?_); rintro e w3 ⟨rfl, rfl⟩)
    | (go_at_call 24; (refine (CE.out _ hb1).mono ?_); rintro e w4 ⟨rfl, hb4⟩; have hB4 := hb1.trans (hb4.mono hb1.size))
    | fail)
  have HB4 := Lib.hid hB4
  clear hb1 hb4 hB4
  go_cut [49] (fun s wc => Hid (s = .bool B5) ∧ Hid (Below w.heap.size w wc))
  case first =>
    rcases HCASE.out with ⟨h0, h1⟩ | ⟨h0, g1, g2, hpq, h1⟩ | ⟨h0, g1, g2, hpq, h1⟩
    · subst h1
      have hz : (E == 0) = false := by simp; omega
      have hz2 : ¬ E = 0 := h0
      go_wp2_with fail
      go_meet
      exact ⟨by show _ = _; rw [← HD5.out]; simp <;> omega, HB4.out⟩
    · subst h0 h1
      obtain ⟨P', hP'⟩ : ∃ P' : Nat, p = (P' : Int) := ⟨p.toNat, by omega⟩
      subst hP'
      rw [Int.toNat_natCast] at hpq
      have eq1 : Int.tdiv (nf : Int) 2 = ((nf / 2 : Nat) : Int) := rfl
      have hq0 := HQ.out
      obtain ⟨hf2, hhf⟩ : ∃ hf2, nf / 2 = hf2 := ⟨_, rfl⟩
      rw [hhf] at eq1 hq0
      have eq2 : (nf : Int) / 2 = (hf2 : Int) := by omega
      have eq3 : (hf2 : Int) + 1 = (q : Int) := by omega
      have hn40 := HNF.out rfl
      have hq21 : q ≤ 21 := by omega
      have CP := Lib.hid (fun W => ref_Powered P' q W (by omega) (by omega) (by omega))
      have HPQ := Lib.hid hpq
      clear hpq hhf hq0
      go_wp2_with (first
        | (go_at_call 25; (refine (CP.out _).mono ?_); rintro e w5 ⟨⟨v, rfl, hv⟩, rfl⟩; have hv1 : (1000000 : Int) < (v : Int) := by have := hv.2.1 HPQ.out; omega)
        | fail)
      go_meet
      exact ⟨by show _ = _; rw [← HD5.out]; simp <;> omega, HB4.out⟩
    · subst h0 h1
      obtain ⟨P', hP'⟩ : ∃ P' : Nat, p = (P' : Int) := ⟨p.toNat, by omega⟩
      subst hP'
      rw [Int.toNat_natCast] at hpq
      have eq1 : Int.tdiv (nf : Int) 2 = ((nf / 2 : Nat) : Int) := rfl
      have hq0 := HQ.out
      obtain ⟨hf2, hhf⟩ : ∃ hf2, nf / 2 = hf2 := ⟨_, rfl⟩
      rw [hhf] at eq1 hq0
      have eq2 : (nf : Int) / 2 = (hf2 : Int) := by omega
      have eq3 : (hf2 : Int) + 1 = (q : Int) := by omega
      have hn40 := HNF.out rfl
      have hq21 : q ≤ 21 := by omega
      have CP := Lib.hid (fun W => ref_Powered P' q W (by omega) (by omega) (by omega))
      have HPQ := Lib.hid hpq
      clear hpq hhf hq0
      go_wp2_with (first
        | (go_at_call 25; (refine (CP.out _).mono ?_); rintro e w5 ⟨⟨v, rfl, hv⟩, rfl⟩; have hv1 : ¬ ((1000000 : Int) < (v : Int)) := by have h1 := HPQ.out; have h2 := hv.1 h1; omega)
        | fail)
      go_meet
      exact ⟨by show _ = _; rw [← HD5.out]; simp <;> omega, HB4.out⟩
  case rest =>
    obtain ⟨hs, hB5⟩ := hcut
    have hs1 := hs.out
    subst hs1
    clear HB4 hs
    go_upto_if 49 with fail
    go_cut [13] (fun s wc => Hid (s = .int .i64 E) ∧ Hid (Below w.heap.size w wc))
    case first =>
      cases B5 with
      | false =>
        have he : E = E0 := by have := HD5.out; simpa using this
        have HE := Lib.hid he
        clear he
        go_wp2_with fail
        go_meet
        exact ⟨by show _ = _; rw [HE.out], hB5.out⟩
      | true =>
        have he : E = 2 := by
          have h1 := HD5.out
          have h2 : E ≠ E0 := by simpa using h1
          rcases HCASE.out with ⟨_, h⟩ | ⟨_, _, _, _, h⟩ | ⟨h0, _, _, _, h⟩
          · exact absurd h h2
          · exact h
          · exact absurd (h.trans h0.symm) h2
        have HE := Lib.hid he
        clear he
        go_wp2_with fail
        go_meet
        exact ⟨by show _ = _; rw [HE.out], hB5.out⟩
    case rest =>
      obtain ⟨hs, hB6⟩ := hcut
      have hs1 := hs.out
      subst hs1
      clear hB5 hs HD5 HCASE CE CI HNF
      go_upto_region 7 with fail
      go_cut [70] (fun s wc => Hid (s = .bool false) ∧ Hid (Below w.heap.size w wc))
      case first =>
        by_cases hz : E = 0
        · subst hz
          go_wp2_with (first
            | (go_at_call 26; (refine (HAL.out rfl _ hB6.out).mono ?_); rintro e w7 ⟨rfl, hb7⟩; have hB7 := hB6.out.trans (hb7.mono hB6.out.size))
            | fail)
          go_meet
          exact ⟨by show _ = _; simp, hB7⟩
        · have hz1 : (E == 0) = false := by simp; omega
          have hz2 : (E != 0) = true := by simp; omega
          obtain rfl := HBB.out hz
          go_wp2_with fail
          go_meet
          exact ⟨by show _ = _; simp, hB6.out⟩
      case rest =>
        obtain ⟨hs, hB8⟩ := hcut
        have hs1 := hs.out
        subst hs1
        clear hB6 hs HAL HBB
        rcases HC2.out with ⟨rfl, rfl⟩ | ⟨rfl, a1, rfl⟩ | ⟨rfl, a1, a2, rfl⟩ | ⟨rfl, a1, a2, a3, a4, a5, rfl⟩
        · go_wp2_with (first
            | (go_at_call 27; (refine (CFE.out _).mono ?_); rintro e w8 ⟨rfl, rfl⟩)
            | fail)
          go_ret
          exact ⟨by simp, hB8.out⟩
        · have d1 : decide (n < 1) = true := by simp; omega
          go_wp2_with (first
            | (go_at_call 27; (refine (CFE.out _).mono ?_); rintro e w8 ⟨rfl, rfl⟩)
            | fail)
          go_ret
          exact ⟨by simp, hB8.out⟩
        · have d1 : decide (n < 1) = false := by simp; omega
          have d2 : decide (39 < n) = true := by simp; omega
          go_wp2_with (first
            | (go_at_call 27; (refine (CFE.out _).mono ?_); rintro e w8 ⟨rfl, rfl⟩)
            | fail)
          go_ret
          exact ⟨by simp, hB8.out⟩
        · have d1 : decide (n < 1) = false := by simp; omega
          have d2 : decide (39 < n) = false := by simp; omega
          obtain ⟨P, rfl⟩ : ∃ P : Nat, p = (P : Int) := ⟨p.toNat, by omega⟩
          obtain ⟨N, rfl⟩ : ∃ N : Nat, n = (N : Int) := ⟨n.toNat, by omega⟩
          rw [Int.toNat_natCast, Int.toNat_natCast] at a5
          have CP := Lib.hid (fun W => ref_Powered P N W (by omega) (by omega) (by omega))
          have HPQ := Lib.hid a5
          clear a5
          go_wp2_with (first
            | (go_at_call 27; (refine (CFE.out _).mono ?_); rintro e w8 ⟨rfl, rfl⟩)
            | (go_at_call 25; (refine (CP.out _).mono ?_); rintro e w9 ⟨⟨v, rfl, hv⟩, rfl⟩; have hv1 : (1000000 : Int) < (v : Int) := by have := hv.2.1 HPQ.out; omega)
            | fail)
          go_ret
          exact ⟨by simp, hB8.out⟩
end Go.Proofs.Ytmeffbooabionaa
