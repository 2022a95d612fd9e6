/- irred.Is, check, First. -/
import Derived.Test.YtmeffbooabionaaIrrB
set_option linter.unusedVariables false
set_option linter.unusedSimpArgs false
namespace Go.Proofs.Ytmeffbooabionaa
open Go.RowKit

/-- What Is says is wrong. -/
noncomputable def isE (p : Int) (f : List Int) : Int := if polE p f = 0 then (if 1000000 < p.toNat ^ (f.length / 2 + 1) then 2 else 0) else polE p f
/-- What First and Count say is wrong. -/
noncomputable def irrE (p n : Int) : Int := if fldE p = 0 then (if n < 1 ∨ 39 < n then 1 else if 1000000 < p.toNat ^ n.toNat then 2 else 0) else 1
theorem fldE_of {p : Int} (h : fldE p = 0) : 2 ≤ p ∧ p ≤ 997 ∧ IsPr p.toNat := by
  rcases fldE_cases p with ⟨_, h1⟩ | h1
  · exact h1
  · rw [h1] at h; cases h
theorem isE_zero {p : Int} {f : List Int} (h : isE p f = 0) : PolOk p f ∧ ∀ d, 2 * d + 1 ≤ f.length → p.toNat ^ d ≤ 1000000 := by
  unfold isE at h
  split at h
  · rename_i h1
    have OF := polOk_of h1
    refine ⟨OF, fun d hd => ?_⟩
    split at h
    · cases h
    · have := OF.p1
      have := pw_mono (p := p.toNat) (i := d) (j := f.length / 2 + 1) (by omega) (by omega)
      omega
  · rename_i h1; exact absurd h h1
theorem irrE_zero {p n : Int} (h : irrE p n = 0) : 2 ≤ p ∧ p ≤ 997 ∧ IsPr p.toNat ∧ 1 ≤ n ∧ n ≤ 39 ∧ p.toNat ^ n.toNat ≤ 1000000 := by
  unfold irrE at h
  split at h
  · rename_i h1
    obtain ⟨a, b, c⟩ := fldE_of h1
    split at h
    · cases h
    · split at h
      · cases h
      · exact ⟨a, b, c, by omega, by omega, by omega⟩
  · cases h
set_option maxRecDepth 100000 in
set_option maxHeartbeats 4000000 in
theorem irr_Is (p : Int) (f : List Int) (ao : Option Addr) (nf ca : Nat) (w : World) (hp : (Lit.int .i64 p).wf = true) (hlf : f.length = nf) (h63 : nf ≤ 9223372036854775807) (hnone : ao = none → nf = 0 ∧ ca = 0) (hF : Hid (Reads w ao (f.map (Value.int .i64)))) :
    Calls Try.prog 21 #[.int .i64 p, .slice ao nf ca] w fun e w' => e = .returned (.tuple #[.bool (if isE p f = 0 then irrB p.toNat f else false), .int .i64 (isE p f)]) ∧ Below w.heap.size w w' := by
  have C1 := Lib.hid (poly_Check p f ao nf ca w hp hlf h63 hF)
  by_cases hE : polE p f = 0
  · have OF := polOk_of hE
    have h40 : nf ≤ 40 := by rw [← hlf]; exact OF.len
    obtain ⟨P, rfl⟩ : ∃ P : Nat, p = (P : Int) := ⟨p.toNat, by have := OF.p1; omega⟩
    have hP2 : 2 ≤ P := by have := OF.p1; omega
    have hP : P ≤ 997 := by have := OF.p2; omega
    rw [hE] at C1
    obtain ⟨q, hq⟩ : ∃ q, nf / 2 + 1 = q := ⟨_, rfl⟩
    have eq1 : Int.tdiv (nf : Int) 2 = ((nf / 2 : Nat) : Int) := rfl
    obtain ⟨hf, hhf⟩ : ∃ hf, nf / 2 = hf := ⟨_, rfl⟩
    rw [hhf] at eq1
    have eq2 : (nf : Int) / 2 = (hf : Int) := by omega
    have eq3 : (hf : Int) + 1 = (q : Int) := by omega
    have hq21 : q ≤ 21 := by omega
    have CP := Lib.hid (fun W => irr_power P q W hP2 hP (by omega))
    have hI : isE (P : Int) f = if 1000000 < P ^ q then 2 else 0 := by unfold isE; rw [if_pos hE, Int.toNat_natCast, hlf, hq]
    rw [Int.toNat_natCast]
    by_cases hbig : 1000000 < P ^ q
    · rw [if_pos hbig] at hI
      rw [hI, if_neg (by omega)]
      have HBIG := Lib.hid hbig
      clear hI hbig hq hhf hE OF hlf
      go_enter Try.func21, Try.ntmps21
      go_wp2_with (first
        | (go_at_call 44; (refine C1.out.mono ?_); rintro e w1 ⟨rfl, hb1⟩)
        | (go_at_call 45; (refine (CP.out _).mono ?_); rintro e w2 ⟨⟨v, rfl, hv⟩, rfl⟩; have hv1 : (1000000 : Int) < (v : Int) := by have := hv.2.1 HBIG.out; omega)
        | fail)
      go_ret2
      exact ⟨rfl, hb1⟩
    · rw [if_neg hbig] at hI
      rw [hI, if_pos rfl]
      have hpw := (isE_zero hI).2
      rw [Int.toNat_natCast] at hpw
      have CI := Lib.hid (fun W h => irr_is P f nf ao ca W OF hpw hlf hnone h)
      have HBIG := Lib.hid hbig
      clear hI hbig hq hhf hE OF hlf hpw
      go_enter Try.func21, Try.ntmps21
      go_wp2_with (first
        | (go_at_call 44; (refine C1.out.mono ?_); rintro e w1 ⟨rfl, hb1⟩)
        | (go_at_call 45; (refine (CP.out _).mono ?_); rintro e w2 ⟨⟨v, rfl, hv⟩, rfl⟩; have hv1 : ¬ ((1000000 : Int) < (v : Int)) := by have h1 := HBIG.out; have h2 := hv.1 (by omega); omega)
        | (go_at_call 46; (refine (CI.out _ (hF.out.below hb1)).mono ?_); rintro e w3 ⟨rfl, hb3⟩)
        | fail)
      go_ret2
      exact ⟨rfl, hb1.trans (hb3.mono hb1.size)⟩
  · have hI : isE p f = polE p f := by unfold isE; rw [if_neg hE]
    rw [hI, if_neg hE]
    obtain ⟨E, hEE⟩ : ∃ E, polE p f = E := ⟨_, rfl⟩
    rw [hEE] at C1 hE ⊢
    have h0b : (E == 0) = false := by simp; omega
    have h0c : (E != 0) = true := by simp; omega
    clear hEE hI
    go_enter Try.func21, Try.ntmps21
    go_wp2_with (first
      | (go_at_call 44; (refine C1.out.mono ?_); rintro e w1 ⟨rfl, hb1⟩)
      | fail)
    go_ret2
    exact ⟨rfl, hb1⟩
set_option maxRecDepth 100000 in
set_option maxHeartbeats 4000000 in
theorem irr_check (p n : Int) (w : World) (hp : (Lit.int .i64 p).wf = true) :
    Calls Try.prog 47 #[.int .i64 p, .int .i64 n] w fun e w' => e = .returned (.int .i64 (irrE p n)) ∧ w' = w := by
  have C1 := Lib.hid (poly_Field p w hp)
  rcases fldE_cases p with ⟨h0, h1, h2, h3⟩ | h0
  · rw [h0] at C1
    obtain ⟨P, rfl⟩ : ∃ P : Nat, p = (P : Int) := ⟨p.toNat, by omega⟩
    have hI : irrE (P : Int) n = if n < 1 ∨ 39 < n then 1 else if 1000000 < P ^ n.toNat then 2 else 0 := by unfold irrE; rw [if_pos h0, Int.toNat_natCast]
    rw [hI]
    clear hI h0
    by_cases a1 : n < 1
    · have d1 : decide (n < 1) = true := by simp; omega
      rw [if_pos (.inl a1)]
      go_enter Try.func47, Try.ntmps47
      go_wp2_with (first | (go_at_call 69; (refine C1.out.mono ?_); rintro e w1 ⟨rfl, rfl⟩) | fail)
      go_ret
      exact ⟨rfl, rfl⟩
    · have d1 : decide (n < 1) = false := by simp; omega
      by_cases a2 : 39 < n
      · have d2 : decide (39 < n) = true := by simp; omega
        rw [if_pos (.inr a2)]
        go_enter Try.func47, Try.ntmps47
        go_wp2_with (first | (go_at_call 69; (refine C1.out.mono ?_); rintro e w1 ⟨rfl, rfl⟩) | fail)
        go_ret
        exact ⟨rfl, rfl⟩
      · have d2 : decide (39 < n) = false := by simp; omega
        rw [if_neg (by omega)]
        obtain ⟨N, rfl⟩ : ∃ N : Nat, n = (N : Int) := ⟨n.toNat, by omega⟩
        rw [Int.toNat_natCast]
        have CP := Lib.hid (fun W => irr_power P N W (by omega) (by omega) (by omega))
        by_cases hbig : 1000000 < P ^ N
        · rw [if_pos hbig]
          have HBIG := Lib.hid hbig
          clear hbig
          go_enter Try.func47, Try.ntmps47
          go_wp2_with (first
            | (go_at_call 69; (refine C1.out.mono ?_); rintro e w1 ⟨rfl, rfl⟩)
            | (go_at_call 45; (refine (CP.out _).mono ?_); rintro e w2 ⟨⟨v, rfl, hv⟩, rfl⟩; have hv1 : (1000000 : Int) < (v : Int) := by have := hv.2.1 HBIG.out; omega)
            | fail)
          go_ret
          exact ⟨rfl, rfl⟩
        · rw [if_neg hbig]
          have HBIG := Lib.hid hbig
          clear hbig
          go_enter Try.func47, Try.ntmps47
          go_wp2_with (first
            | (go_at_call 69; (refine C1.out.mono ?_); rintro e w1 ⟨rfl, rfl⟩)
            | (go_at_call 45; (refine (CP.out _).mono ?_); rintro e w2 ⟨⟨v, rfl, hv⟩, rfl⟩; have hv1 : ¬ ((1000000 : Int) < (v : Int)) := by have h1 := HBIG.out; have h2 := hv.1 (by omega); omega)
            | fail)
          go_ret
          exact ⟨rfl, rfl⟩
  · rw [h0] at C1
    have hI : irrE p n = 1 := by unfold irrE; rw [if_neg (by omega)]
    rw [hI]
    clear hI h0
    go_enter Try.func47, Try.ntmps47
    go_wp2_with (first | (go_at_call 69; (refine C1.out.mono ?_); rintro e w1 ⟨rfl, rfl⟩) | fail)
    go_ret
    exact ⟨rfl, rfl⟩
/-- The first monic irreducible polynomial has the number k0. -/
def FstAt (p n k0 : Nat) : Prop := irrB p (mon p n k0) = true ∧ ∀ k, k < k0 → irrB p (mon p n k) = false
theorem fst_ex {p n : Nat} (h : ∃ k, IrrP p (mon p n k)) : ∃ k0, FstAt p n k0 ∧ ∀ k, IrrP p (mon p n k) → k0 ≤ k := by
  obtain ⟨k0, h1, h2⟩ := exists_least h
  refine ⟨k0, ⟨irrB_true h1, fun k hk => irrB_false fun hh => ?_⟩, h2⟩
  have := h2 k hh
  omega
set_option maxRecDepth 100000 in
set_option maxHeartbeats 4000000 in
theorem irr_First (p n k0 : Nat) (w : World) (hp : (Lit.int .i64 (p : Int)).wf = true) (hE : irrE p n = 0) (hk0 : FstAt p n k0) (hkb : k0 ≤ 1000000) :
    Calls Try.prog 22 #[.int .i64 p, .int .i64 n] w fun e w' => ∃ g, e = .returned (.tuple #[.slice (some ⟨g, 0, none⟩) (n + 1 : Nat) (n + 1 : Nat), .int .i64 0]) ∧ Reads w' (some ⟨g, 0, none⟩) ((mon p n k0).map (Value.int .i64)) ∧ Below w.heap.size w w' := by
  have C1 := Lib.hid (irr_check p n w hp)
  rw [hE] at C1
  obtain ⟨a1, a2, a3, a4, a5, a6⟩ := irrE_zero hE
  rw [Int.toNat_natCast] at a3 a6
  rw [Int.toNat_natCast] at a6
  have hp2 : 2 ≤ p := by omega
  have hp9 : p ≤ 997 := by omega
  have hn1 : 1 ≤ n := by omega
  have hn39 : n ≤ 39 := by omega
  have CM := Lib.hid (fun k W (hk : k ≤ 1000000) => irr_monic p n k W hp2 hp9 (by omega) (by omega))
  have CI := Lib.hid (fun k W g c h => irr_is p (mon p n k) (n + 1) (some ⟨g, 0, none⟩) c W (mon_ok hp2 hp9 a3 hn39) (fun d hd => by rw [mon_len] at hd; exact Nat.le_trans (pw_mono (j := n) (by omega) (by omega)) a6) (mon_len p n k) (fun h => by cases h) h)
  have HK := Lib.hid hk0
  obtain ⟨M, hM⟩ : ∃ M, n + 1 = M := ⟨_, rfl⟩
  rw [hM] at CM CI ⊢
  clear hE hk0 a1 a2 a3 a4 a5 a6 hM
  go_enter Try.func22, Try.ntmps22
  go_wp2_with (first
    | (go_at_call 47; (refine C1.out.mono ?_); rintro e w1 ⟨rfl, rfl⟩)
    | fail)
  obtain ⟨w0, rfl⟩ : ∃ w0, w0 = w1 := ⟨_, rfl⟩
  go_loopw [7] (fun vk wr => ∃ (k : Nat), vk = .int .i64 k ∧ k ≤ k0 ∧ Hid (Below w0.heap.size w0 wr)) (fun vk _ => k0 - (intOf vk).toNat)
  case atStart => exact ⟨0, rfl, Nat.zero_le _, Below.refl _ _⟩
  case round =>
    obtain ⟨k, rfl, hk, hB⟩ := hrel
    obtain ⟨wi, rfl⟩ : ∃ wi, wi = wr := ⟨_, rfl⟩
    by_cases hkk : k = k0
    · subst hkk
      have hb1 := HK.out.1
      have CI2 := Lib.hid (fun W g c h => CI.out k W g c h)
      rw [hb1] at CI2
      clear hb1
      go_wp2_with (first
        | (go_at_call 48; (refine (CM.out k _ (by omega)).mono ?_); rintro e w2 ⟨g, rfl, hG2, hb2⟩; have hGr := Lib.hid (own_readsI hG2))
        | (go_at_call 46; (refine (CI2.out w2 g _ hGr).mono ?_); rintro e w3 ⟨rfl, hb3⟩)
        | fail)
      go_ret2
      exact ⟨g, rfl, hGr.out.below hb3, hB.out.trans ((hb2.trans (hb3.mono hb2.size)).mono hB.out.size)⟩
    · have hb1 := HK.out.2 k (by omega)
      have CI2 := Lib.hid (fun W g c h => CI.out k W g c h)
      rw [hb1] at CI2
      clear hb1
      go_wp2_with (first
        | (go_at_call 48; (refine (CM.out k _ (by omega)).mono ?_); rintro e w2 ⟨g, rfl, hG2, hb2⟩; have hGr := Lib.hid (own_readsI hG2))
        | (go_at_call 46; (refine (CI2.out w2 g _ hGr).mono ?_); rintro e w3 ⟨rfl, hb3⟩)
        | fail)
      go_roundw
      case rel => exact ⟨k + 1, by go_num, by omega, hB.out.trans ((hb2.trans (hb3.mono hb2.size)).mono hB.out.size)⟩
      case measure => simp [intOf]; omega
theorem irr_First_bad (p n : Int) (w : World) (hp : (Lit.int .i64 p).wf = true) (hE : irrE p n ≠ 0) :
    Calls Try.prog 22 #[.int .i64 p, .int .i64 n] w fun e w' => e = .returned (.tuple #[.slice none 0 0, .int .i64 (irrE p n)]) ∧ w' = w := by
  have C1 := Lib.hid (irr_check p n w hp)
  obtain ⟨E, hEE⟩ : ∃ E, irrE p n = E := ⟨_, rfl⟩
  rw [hEE] at C1 hE ⊢
  have h0b : (E == 0) = false := by simp; omega
  have h0c : (E != 0) = true := by simp; omega
  clear hEE
  go_enter Try.func22, Try.ntmps22
  go_wp2_with (first
    | (go_at_call 47; (refine C1.out.mono ?_); rintro e w1 ⟨rfl, rfl⟩)
    | fail)
  go_ret2
  exact ⟨rfl, rfl⟩
end Go.Proofs.Ytmeffbooabionaa
