/- ReedSays: the walk. -/
import Derived.Test.YtkincmkmkfiglaaRows
import Derived.Test.YtkincmkmkfiglaaReedL
namespace Go.Proofs.Ytkincmkmkfiglaa
open Go.RowKit

/-- The reference answers what Mend answers: where a row is right. -/
def MendBoth (H : Nat → Bool) (B : Nat → GF) (n k : Nat) (am : Option Addr) (lm : Nat) (E : Int) (w : World) (e : Ending) (w' : World) : Prop :=
  ∃ ar cr, e = .returned (.tuple #[.slice ar lm cr, .int .i64 E]) ∧ Below w.heap.size w w' ∧ ∃ f : Nat → GF, Reads w am (rowF lm (gfV f)) ∧ Reads w' ar (rowF lm (gfV f))
theorem ref_MendOf_both (H : Nat → Bool) (B : Nat → GF) (n k : Nat) (ao : Option Addr) (cap : Nat) (w : World) (hn : n ≤ 20) (hk1 : 1 ≤ k) (hk2 : k ≤ n) (hR : Reads w ao (cellV H B n))
    (am : Option Addr) (lm : Nat) (E : Int)
    (hm : ((pl H n).length < k ∧ E = 9 ∧ lm = 0) ∨ (k ≤ (pl H n).length ∧ ¬ Fit H B (pl H n) k n ∧ E = 8 ∧ lm = 0) ∨ (k ≤ (pl H n).length ∧ Fit H B (pl H n) k n ∧ E = 0 ∧ lm = n ∧ Reads w am (rowF n (gfV fun j => rowP B (pl H n) k (gf j))))) :
    Calls Try.prog 67 #[.slice ao n cap, .int .i64 k] w (MendBoth H B n k am lm E w) := by
  refine (ref_MendOf H B n k ao cap w hn hk1 hk2 hR).mono ?_
  rintro e w' ⟨hb, hh⟩
  have hl : (pd H n n).length = (pl H n).length := by rw [pd_all, List.length_reverse]
  rw [hl] at hh
  rcases hm with ⟨m1, rfl, rfl⟩ | ⟨m1, m2, rfl, rfl⟩ | ⟨m1, m2, rfl, rfl, m3⟩
  · rcases hh with ⟨a1, rfl⟩ | ⟨a1, _⟩ | ⟨a1, _⟩
    · exact ⟨_, _, rfl, hb, fun _ => 0, Reads.nil _ _, Reads.nil _ _⟩
    · omega
    · omega
  · rcases hh with ⟨a1, _⟩ | ⟨a1, a2, rfl⟩ | ⟨a1, a2, _⟩
    · omega
    · exact ⟨_, _, rfl, hb, fun _ => 0, Reads.nil _ _, Reads.nil _ _⟩
    · exact absurd ((fit_iff (by omega) m1).1.2 a2) m2
  · rcases hh with ⟨a1, _⟩ | ⟨a1, a2, _⟩ | ⟨a1, a2, v, rfl, hv⟩
    · omega
    · exact absurd ((fit_iff (by omega) m1).1.1 m2) a2
    · have hs := (fit_iff (by omega) m1).2 m2
      obtain ⟨av, cv, rfl, hR, _, _⟩ := own_reads hv
      refine ⟨_, _, rfl, hb, _, m3, ?_⟩
      have e : rowF lm (gfV fun j => rowP B (pl H lm) k (gf j)) = rowF lm (gfV fun j => rowP B (pd H lm lm) k (gf j)) := rowF_congr fun j _ => by
        unfold gfV; dsimp only; rw [hs]
      rw [e]; exact hR
/-- The second half of the walk: what is known where Check comes. -/
structure Half (w W : World) (bo : Option Addr) (lm : Nat) (cs : List (Bool × Int)) (k : Int) (ma : Option Addr) (ml : Nat) (E : Int) : Prop where
  bel : Below w.heap.size w W
  cel : Reads W bo (cellV (hasOf cs) (gfOf cs) lm)
  mend : (chkE 20 lm k ≠ 0 ∧ E = chkE 20 lm k ∧ ml = 0) ∨ (chkE 20 lm k = 0 ∧ (((pl (hasOf cs) lm).length < k.toNat ∧ E = 9 ∧ ml = 0) ∨ (k.toNat ≤ (pl (hasOf cs) lm).length ∧ ¬ Fit (hasOf cs) (gfOf cs) (pl (hasOf cs) lm) k.toNat lm ∧ E = 8 ∧ ml = 0) ∨ (k.toNat ≤ (pl (hasOf cs) lm).length ∧ Fit (hasOf cs) (gfOf cs) (pl (hasOf cs) lm) k.toNat lm ∧ E = 0 ∧ ml = lm ∧ Reads W ma (rowF lm (gfV fun j => rowP (gfOf cs) (pl (hasOf cs) lm) k.toNat (gf j))))))
theorem Half.of {w W : World} {bo : Option Addr} {lm : Nat} {cs : List (Bool × Int)} {k : Int} {ma : Option Addr} {ml mc : Nat} {E : Int} {w1 : World} (hb : Below w.heap.size w w1) (hc : Reads w1 bo (cellV (hasOf cs) (gfOf cs) lm)) (hW : Below w1.heap.size w1 W)
    (h : (chkE 20 lm k ≠ 0 ∧ E = chkE 20 lm k ∧ ml = 0) ∨ (chkE 20 lm k = 0 ∧ (pl (hasOf cs) lm).length < k.toNat ∧ E = 9 ∧ ma = none ∧ ml = 0 ∧ mc = 0) ∨
     (chkE 20 lm k = 0 ∧ k.toNat ≤ (pl (hasOf cs) lm).length ∧ ¬ Fit (hasOf cs) (gfOf cs) (pl (hasOf cs) lm) k.toNat lm ∧ E = 8 ∧ ma = none ∧ ml = 0 ∧ mc = 0) ∨
     (chkE 20 lm k = 0 ∧ k.toNat ≤ (pl (hasOf cs) lm).length ∧ Fit (hasOf cs) (gfOf cs) (pl (hasOf cs) lm) k.toNat lm ∧ E = 0 ∧ ml = lm ∧ Reads W ma (rowF lm (gfV fun j => rowP (gfOf cs) (pl (hasOf cs) lm) k.toNat (gf j))))) : Half w W bo lm cs k ma ml E := by
  refine ⟨hb.trans (Below.mono hW hb.size), hc.below hW, ?_⟩
  rcases h with h | ⟨h, a, b, _, c, _⟩ | ⟨h, a, a2, b, _, c, _⟩ | ⟨h, a, a2, b, c, d⟩
  · exact .inl h
  · exact .inr ⟨h, .inl ⟨a, b, c⟩⟩
  · exact .inr ⟨h, .inr (.inl ⟨a, a2, b, c⟩)⟩
  · exact .inr ⟨h, .inr (.inr ⟨a, a2, b, c, d⟩)⟩
theorem Half.later {w W W' : World} {bo : Option Addr} {lm : Nat} {cs : List (Bool × Int)} {k : Int} {ma : Option Addr} {ml : Nat} {E : Int} (h : Half w W bo lm cs k ma ml E) (hb : Below W.heap.size W W') : Half w W' bo lm cs k ma ml E := by
  refine ⟨h.bel.trans (Below.mono hb h.bel.size), h.cel.below hb, ?_⟩
  rcases h.mend with h | ⟨h, a | a | ⟨a, a2, b, c, d⟩⟩
  · exact .inl h
  · exact .inr ⟨h, .inl a⟩
  · exact .inr ⟨h, .inr (.inl a)⟩
  · exact .inr ⟨h, .inr (.inr ⟨a, a2, b, c, d.below hb⟩)⟩
/-- What is decided ahead. -/
theorem chk_cases (n : Nat) (k : Int) : (20 < n ∧ chkE 20 n k = 2) ∨ (n ≤ 20 ∧ k < 1 ∧ chkE 20 n k = 1) ∨ (n ≤ 20 ∧ 1 ≤ k ∧ (n : Int) < k ∧ chkE 20 n k = 1) ∨ (n ≤ 20 ∧ 1 ≤ k ∧ k ≤ n ∧ chkE 20 n k = 0) := by
  unfold chkE
  by_cases h1 : 20 < n
  · rw [if_pos h1]; exact .inl ⟨h1, rfl⟩
  · rw [if_neg h1]
    by_cases h2 : k < 1
    · rw [if_pos (.inl h2)]; exact .inr (.inl ⟨by omega, h2, rfl⟩)
    · by_cases h3 : (n : Int) < k
      · rw [if_pos (.inr h3)]; exact .inr (.inr (.inl ⟨by omega, by omega, h3, rfl⟩))
      · rw [if_neg (by omega)]; exact .inr (.inr (.inr ⟨by omega, by omega, by omega, rfl⟩))
theorem put_cases (n : Nat) (N : Int) : (n < 1 ∧ putE n N = 2) ∨ (1 ≤ n ∧ 20 < n ∧ putE n N = 2) ∨ (1 ≤ n ∧ n ≤ 20 ∧ N < n ∧ putE n N = 1) ∨ (1 ≤ n ∧ n ≤ 20 ∧ (n : Int) ≤ N ∧ 20 < N ∧ putE n N = 1) ∨ (1 ≤ n ∧ n ≤ 20 ∧ (n : Int) ≤ N ∧ N ≤ 20 ∧ putE n N = 0) := by
  unfold putE
  by_cases h1 : n < 1
  · rw [if_pos (.inl h1)]; exact .inl ⟨h1, rfl⟩
  · by_cases h2 : 20 < n
    · rw [if_pos (.inr h2)]; exact .inr (.inl ⟨by omega, h2, rfl⟩)
    · rw [if_neg (by omega)]
      by_cases h3 : N < n
      · rw [if_pos (.inl h3)]; exact .inr (.inr (.inl ⟨by omega, by omega, h3, rfl⟩))
      · by_cases h4 : 20 < N
        · rw [if_pos (.inr h4)]; exact .inr (.inr (.inr (.inl ⟨by omega, by omega, by omega, h4, rfl⟩)))
        · rw [if_neg (by omega)]; exact .inr (.inr (.inr (.inr ⟨by omega, by omega, by omega, by omega, rfl⟩)))
set_option maxRecDepth 100000 in
set_option maxHeartbeats 4000000 in
theorem reedSays_bad (ao : Option Addr) (ln cap : Nat) (zs : List Int) (N : Int) (bo : Option Addr) (lm cap2 : Nat) (cs : List (Bool × Int)) (k : Int) (w : World) (h1 : IntsIn .u8 w ao ln zs) (h2 : FlagsIn .u8 w bo lm cs) (hz : putE ln N ≠ 0) :
    Calls Try.prog 10 #[.slice ao ln cap, .int .i64 N, .slice bo lm cap2, .int .i64 k] w fun e w' => e = .returned (.bool true) ∧ Below w.heap.size w w' := by
  have hl1 := h1.2.1
  have hl2 := h2.2.1
  have HP := Lib.hid (reed_Put_any (gfOfI zs) ln N ao cap w (bytes_of h1))
  have HM := Lib.hid (fun W (hc : Reads W bo (cellV (hasOf cs) (gfOf cs) lm)) => reed_Mend_any (hasOf cs) (gfOf cs) lm k bo cap2 W hc)
  have HCH := Lib.hid (fun W => reed_Check lm k bo cap2 W)
  have HC := Lib.hid (cells_of h2)
  have HY := Lib.hid (bytes_of h1)
  have hchk := chk_cases lm k
  have hput := put_cases ln N
  have HZ := Lib.hid hz
  clear h1 h2 hz
  go_enter Try.func10, Try.ntmps10
  go_wp2_with fail
  refine HP.out.mono ?_
  rintro e w1 ⟨pa, pn, pc, E1, rfl, hb1, hp⟩
  have HPP := Lib.hid hp
  have HB1 := Lib.hid hb1
  have HC1 := Lib.hid (HC.out.below hb1)
  clear hp hb1 HP
  go_wp2_with fail
  refine (HM.out _ HC1.out).mono ?_
  rintro e w2 ⟨ma, ml, mc, E2, rfl, hb2, hm⟩
  have HH := Lib.hid (Half.of HB1.out HC1.out hb2 hm)
  have HB12 := Lib.hid hb2
  clear hm hb2 HM
  have hE1 : E1 = putE ln N ∧ pn = 0 := by
    rcases HPP.out with ⟨_, m2, m3⟩ | ⟨m1, _⟩
    · exact ⟨m2, m3⟩
    · exact absurd m1 HZ.out
  obtain ⟨hE1, rfl⟩ := hE1
  clear HPP HB12
  rcases hput with ⟨p1, p0⟩ | ⟨p1, p2, p0⟩ | ⟨p1, p2, p3, p0⟩ | ⟨p1, p2, p3, p4, p0⟩ | ⟨p1, p2, p3, p4, p0⟩
  case inr.inr.inr.inr => exact absurd p0 HZ.out
  all_goals (rw [p0] at hE1; subst hE1; clear p0 HZ)
  · have d1 : decide ((ln : Int) < 1) = true := by simp; omega
    rcases hchk with ⟨q1, q0⟩ | ⟨q1, q2, q0⟩ | ⟨q1, q2, q3, q0⟩ | ⟨q1, q2, q3, q0⟩
    · have f1 : decide ((20 : Int) < lm) = true := by simp; omega
      have hE : E2 = 2 ∧ ml = 0 := by
        rcases HH.out.mend with ⟨_, m2, m3⟩ | ⟨m1, _⟩
        · exact ⟨by rw [m2, q0], m3⟩
        · rw [q0] at m1; cases m1
      obtain ⟨rfl, rfl⟩ := hE
      rw [q0] at HCH
      clear q0
      go_wp2_with (go_at_call 66; refine (HCH.out _).mono ?_; rintro e w' ⟨rfl, rfl⟩)
      go_ret
      exact ⟨by simp, HH.out.bel⟩
    · have f1 : decide ((20 : Int) < lm) = false := by simp; omega
      have f2 : decide (k < 1) = true := by simp; omega
      have hE : E2 = 1 ∧ ml = 0 := by
        rcases HH.out.mend with ⟨_, m2, m3⟩ | ⟨m1, _⟩
        · exact ⟨by rw [m2, q0], m3⟩
        · rw [q0] at m1; cases m1
      obtain ⟨rfl, rfl⟩ := hE
      rw [q0] at HCH
      clear q0
      go_wp2_with (go_at_call 66; refine (HCH.out _).mono ?_; rintro e w' ⟨rfl, rfl⟩)
      go_ret
      exact ⟨by simp, HH.out.bel⟩
    · have f1 : decide ((20 : Int) < lm) = false := by simp; omega
      have f2 : decide (k < 1) = false := by simp; omega
      have f3 : decide ((lm : Int) < k) = true := by simp; omega
      have hE : E2 = 1 ∧ ml = 0 := by
        rcases HH.out.mend with ⟨_, m2, m3⟩ | ⟨m1, _⟩
        · exact ⟨by rw [m2, q0], m3⟩
        · rw [q0] at m1; cases m1
      obtain ⟨rfl, rfl⟩ := hE
      rw [q0] at HCH
      clear q0
      go_wp2_with (go_at_call 66; refine (HCH.out _).mono ?_; rintro e w' ⟨rfl, rfl⟩)
      go_ret
      exact ⟨by simp, HH.out.bel⟩
    · have f1 : decide ((20 : Int) < lm) = false := by simp; omega
      have f2 : decide (k < 1) = false := by simp; omega
      have f3 : decide ((lm : Int) < k) = false := by simp; omega
      have hmm : _ := HH.out.mend
      rw [q0] at HCH hmm
      obtain ⟨K, rfl⟩ : ∃ K : Nat, k = K := ⟨k.toNat, by omega⟩
      have hK : (K : Int).toNat = K := by omega
      rw [hK] at hmm
      have HMO := Lib.hid (ref_MendOf_both (hasOf cs) (gfOf cs) lm K bo cap2 _ q1 (by omega) (by omega) HH.out.cel ma ml E2 (by
        rcases hmm with ⟨m1, _⟩ | ⟨_, m2⟩
        · exact absurd rfl m1
        · exact m2))
      have hml : ml ≤ 20 := by rcases hmm with ⟨m1, _⟩ | ⟨_, ⟨_, _, m⟩ | ⟨_, _, _, m⟩ | ⟨_, _, _, m, _⟩⟩ <;> (first | exact absurd rfl m1 | omega)
      have f4 : (E2 == E2) = true := by simp
      clear q0 hmm
      go_wp2_with (go_at_call 66; refine (HCH.out _).mono ?_; rintro e w' ⟨rfl, rfl⟩)
      refine HMO.out.mono ?_
      rintro e w9 ⟨ar, cr, rfl, hb9, f, hf1, hf2⟩
      have HF1 := Lib.hid (hf1.below hb9)
      have HF2 := Lib.hid hf2
      have HB9 := Lib.hid (HH.out.bel.trans (Below.mono hb9 HH.out.bel.size))
      clear hf1 hf2 hb9 HMO
      go_wp2_with fail
      refine (same_gf f ml ma ar mc cr w9 (by omega) HF1 HF2).mono ?_
      rintro e w' ⟨rfl, q, rfl⟩
      go_wp2_with fail
      go_ret
      exact ⟨by simp, below_drewN HB9.out q⟩
  · have d1 : decide ((ln : Int) < 1) = false := by simp; omega
    have d2 : decide ((20 : Int) < ln) = true := by simp; omega
    rcases hchk with ⟨q1, q0⟩ | ⟨q1, q2, q0⟩ | ⟨q1, q2, q3, q0⟩ | ⟨q1, q2, q3, q0⟩
    · have f1 : decide ((20 : Int) < lm) = true := by simp; omega
      have hE : E2 = 2 ∧ ml = 0 := by
        rcases HH.out.mend with ⟨_, m2, m3⟩ | ⟨m1, _⟩
        · exact ⟨by rw [m2, q0], m3⟩
        · rw [q0] at m1; cases m1
      obtain ⟨rfl, rfl⟩ := hE
      rw [q0] at HCH
      clear q0
      go_wp2_with (go_at_call 66; refine (HCH.out _).mono ?_; rintro e w' ⟨rfl, rfl⟩)
      go_ret
      exact ⟨by simp, HH.out.bel⟩
    · have f1 : decide ((20 : Int) < lm) = false := by simp; omega
      have f2 : decide (k < 1) = true := by simp; omega
      have hE : E2 = 1 ∧ ml = 0 := by
        rcases HH.out.mend with ⟨_, m2, m3⟩ | ⟨m1, _⟩
        · exact ⟨by rw [m2, q0], m3⟩
        · rw [q0] at m1; cases m1
      obtain ⟨rfl, rfl⟩ := hE
      rw [q0] at HCH
      clear q0
      go_wp2_with (go_at_call 66; refine (HCH.out _).mono ?_; rintro e w' ⟨rfl, rfl⟩)
      go_ret
      exact ⟨by simp, HH.out.bel⟩
    · have f1 : decide ((20 : Int) < lm) = false := by simp; omega
      have f2 : decide (k < 1) = false := by simp; omega
      have f3 : decide ((lm : Int) < k) = true := by simp; omega
      have hE : E2 = 1 ∧ ml = 0 := by
        rcases HH.out.mend with ⟨_, m2, m3⟩ | ⟨m1, _⟩
        · exact ⟨by rw [m2, q0], m3⟩
        · rw [q0] at m1; cases m1
      obtain ⟨rfl, rfl⟩ := hE
      rw [q0] at HCH
      clear q0
      go_wp2_with (go_at_call 66; refine (HCH.out _).mono ?_; rintro e w' ⟨rfl, rfl⟩)
      go_ret
      exact ⟨by simp, HH.out.bel⟩
    · have f1 : decide ((20 : Int) < lm) = false := by simp; omega
      have f2 : decide (k < 1) = false := by simp; omega
      have f3 : decide ((lm : Int) < k) = false := by simp; omega
      have hmm : _ := HH.out.mend
      rw [q0] at HCH hmm
      obtain ⟨K, rfl⟩ : ∃ K : Nat, k = K := ⟨k.toNat, by omega⟩
      have hK : (K : Int).toNat = K := by omega
      rw [hK] at hmm
      have HMO := Lib.hid (ref_MendOf_both (hasOf cs) (gfOf cs) lm K bo cap2 _ q1 (by omega) (by omega) HH.out.cel ma ml E2 (by
        rcases hmm with ⟨m1, _⟩ | ⟨_, m2⟩
        · exact absurd rfl m1
        · exact m2))
      have hml : ml ≤ 20 := by rcases hmm with ⟨m1, _⟩ | ⟨_, ⟨_, _, m⟩ | ⟨_, _, _, m⟩ | ⟨_, _, _, m, _⟩⟩ <;> (first | exact absurd rfl m1 | omega)
      have f4 : (E2 == E2) = true := by simp
      clear q0 hmm
      go_wp2_with (go_at_call 66; refine (HCH.out _).mono ?_; rintro e w' ⟨rfl, rfl⟩)
      refine HMO.out.mono ?_
      rintro e w9 ⟨ar, cr, rfl, hb9, f, hf1, hf2⟩
      have HF1 := Lib.hid (hf1.below hb9)
      have HF2 := Lib.hid hf2
      have HB9 := Lib.hid (HH.out.bel.trans (Below.mono hb9 HH.out.bel.size))
      clear hf1 hf2 hb9 HMO
      go_wp2_with fail
      refine (same_gf f ml ma ar mc cr w9 (by omega) HF1 HF2).mono ?_
      rintro e w' ⟨rfl, q, rfl⟩
      go_wp2_with fail
      go_ret
      exact ⟨by simp, below_drewN HB9.out q⟩
  · have d1 : decide ((ln : Int) < 1) = false := by simp; omega
    have d2 : decide ((20 : Int) < ln) = false := by simp; omega
    have d3 : decide (N < (ln : Int)) = true := by simp; omega
    rcases hchk with ⟨q1, q0⟩ | ⟨q1, q2, q0⟩ | ⟨q1, q2, q3, q0⟩ | ⟨q1, q2, q3, q0⟩
    · have f1 : decide ((20 : Int) < lm) = true := by simp; omega
      have hE : E2 = 2 ∧ ml = 0 := by
        rcases HH.out.mend with ⟨_, m2, m3⟩ | ⟨m1, _⟩
        · exact ⟨by rw [m2, q0], m3⟩
        · rw [q0] at m1; cases m1
      obtain ⟨rfl, rfl⟩ := hE
      rw [q0] at HCH
      clear q0
      go_wp2_with (go_at_call 66; refine (HCH.out _).mono ?_; rintro e w' ⟨rfl, rfl⟩)
      go_ret
      exact ⟨by simp, HH.out.bel⟩
    · have f1 : decide ((20 : Int) < lm) = false := by simp; omega
      have f2 : decide (k < 1) = true := by simp; omega
      have hE : E2 = 1 ∧ ml = 0 := by
        rcases HH.out.mend with ⟨_, m2, m3⟩ | ⟨m1, _⟩
        · exact ⟨by rw [m2, q0], m3⟩
        · rw [q0] at m1; cases m1
      obtain ⟨rfl, rfl⟩ := hE
      rw [q0] at HCH
      clear q0
      go_wp2_with (go_at_call 66; refine (HCH.out _).mono ?_; rintro e w' ⟨rfl, rfl⟩)
      go_ret
      exact ⟨by simp, HH.out.bel⟩
    · have f1 : decide ((20 : Int) < lm) = false := by simp; omega
      have f2 : decide (k < 1) = false := by simp; omega
      have f3 : decide ((lm : Int) < k) = true := by simp; omega
      have hE : E2 = 1 ∧ ml = 0 := by
        rcases HH.out.mend with ⟨_, m2, m3⟩ | ⟨m1, _⟩
        · exact ⟨by rw [m2, q0], m3⟩
        · rw [q0] at m1; cases m1
      obtain ⟨rfl, rfl⟩ := hE
      rw [q0] at HCH
      clear q0
      go_wp2_with (go_at_call 66; refine (HCH.out _).mono ?_; rintro e w' ⟨rfl, rfl⟩)
      go_ret
      exact ⟨by simp, HH.out.bel⟩
    · have f1 : decide ((20 : Int) < lm) = false := by simp; omega
      have f2 : decide (k < 1) = false := by simp; omega
      have f3 : decide ((lm : Int) < k) = false := by simp; omega
      have hmm : _ := HH.out.mend
      rw [q0] at HCH hmm
      obtain ⟨K, rfl⟩ : ∃ K : Nat, k = K := ⟨k.toNat, by omega⟩
      have hK : (K : Int).toNat = K := by omega
      rw [hK] at hmm
      have HMO := Lib.hid (ref_MendOf_both (hasOf cs) (gfOf cs) lm K bo cap2 _ q1 (by omega) (by omega) HH.out.cel ma ml E2 (by
        rcases hmm with ⟨m1, _⟩ | ⟨_, m2⟩
        · exact absurd rfl m1
        · exact m2))
      have hml : ml ≤ 20 := by rcases hmm with ⟨m1, _⟩ | ⟨_, ⟨_, _, m⟩ | ⟨_, _, _, m⟩ | ⟨_, _, _, m, _⟩⟩ <;> (first | exact absurd rfl m1 | omega)
      have f4 : (E2 == E2) = true := by simp
      clear q0 hmm
      go_wp2_with (go_at_call 66; refine (HCH.out _).mono ?_; rintro e w' ⟨rfl, rfl⟩)
      refine HMO.out.mono ?_
      rintro e w9 ⟨ar, cr, rfl, hb9, f, hf1, hf2⟩
      have HF1 := Lib.hid (hf1.below hb9)
      have HF2 := Lib.hid hf2
      have HB9 := Lib.hid (HH.out.bel.trans (Below.mono hb9 HH.out.bel.size))
      clear hf1 hf2 hb9 HMO
      go_wp2_with fail
      refine (same_gf f ml ma ar mc cr w9 (by omega) HF1 HF2).mono ?_
      rintro e w' ⟨rfl, q, rfl⟩
      go_wp2_with fail
      go_ret
      exact ⟨by simp, below_drewN HB9.out q⟩
  · have d1 : decide ((ln : Int) < 1) = false := by simp; omega
    have d2 : decide ((20 : Int) < ln) = false := by simp; omega
    have d3 : decide (N < (ln : Int)) = false := by simp; omega
    have d4 : decide (20 < N) = true := by simp; omega
    rcases hchk with ⟨q1, q0⟩ | ⟨q1, q2, q0⟩ | ⟨q1, q2, q3, q0⟩ | ⟨q1, q2, q3, q0⟩
    · have f1 : decide ((20 : Int) < lm) = true := by simp; omega
      have hE : E2 = 2 ∧ ml = 0 := by
        rcases HH.out.mend with ⟨_, m2, m3⟩ | ⟨m1, _⟩
        · exact ⟨by rw [m2, q0], m3⟩
        · rw [q0] at m1; cases m1
      obtain ⟨rfl, rfl⟩ := hE
      rw [q0] at HCH
      clear q0
      go_wp2_with (go_at_call 66; refine (HCH.out _).mono ?_; rintro e w' ⟨rfl, rfl⟩)
      go_ret
      exact ⟨by simp, HH.out.bel⟩
    · have f1 : decide ((20 : Int) < lm) = false := by simp; omega
      have f2 : decide (k < 1) = true := by simp; omega
      have hE : E2 = 1 ∧ ml = 0 := by
        rcases HH.out.mend with ⟨_, m2, m3⟩ | ⟨m1, _⟩
        · exact ⟨by rw [m2, q0], m3⟩
        · rw [q0] at m1; cases m1
      obtain ⟨rfl, rfl⟩ := hE
      rw [q0] at HCH
      clear q0
      go_wp2_with (go_at_call 66; refine (HCH.out _).mono ?_; rintro e w' ⟨rfl, rfl⟩)
      go_ret
      exact ⟨by simp, HH.out.bel⟩
    · have f1 : decide ((20 : Int) < lm) = false := by simp; omega
      have f2 : decide (k < 1) = false := by simp; omega
      have f3 : decide ((lm : Int) < k) = true := by simp; omega
      have hE : E2 = 1 ∧ ml = 0 := by
        rcases HH.out.mend with ⟨_, m2, m3⟩ | ⟨m1, _⟩
        · exact ⟨by rw [m2, q0], m3⟩
        · rw [q0] at m1; cases m1
      obtain ⟨rfl, rfl⟩ := hE
      rw [q0] at HCH
      clear q0
      go_wp2_with (go_at_call 66; refine (HCH.out _).mono ?_; rintro e w' ⟨rfl, rfl⟩)
      go_ret
      exact ⟨by simp, HH.out.bel⟩
    · have f1 : decide ((20 : Int) < lm) = false := by simp; omega
      have f2 : decide (k < 1) = false := by simp; omega
      have f3 : decide ((lm : Int) < k) = false := by simp; omega
      have hmm : _ := HH.out.mend
      rw [q0] at HCH hmm
      obtain ⟨K, rfl⟩ : ∃ K : Nat, k = K := ⟨k.toNat, by omega⟩
      have hK : (K : Int).toNat = K := by omega
      rw [hK] at hmm
      have HMO := Lib.hid (ref_MendOf_both (hasOf cs) (gfOf cs) lm K bo cap2 _ q1 (by omega) (by omega) HH.out.cel ma ml E2 (by
        rcases hmm with ⟨m1, _⟩ | ⟨_, m2⟩
        · exact absurd rfl m1
        · exact m2))
      have hml : ml ≤ 20 := by rcases hmm with ⟨m1, _⟩ | ⟨_, ⟨_, _, m⟩ | ⟨_, _, _, m⟩ | ⟨_, _, _, m, _⟩⟩ <;> (first | exact absurd rfl m1 | omega)
      have f4 : (E2 == E2) = true := by simp
      clear q0 hmm
      go_wp2_with (go_at_call 66; refine (HCH.out _).mono ?_; rintro e w' ⟨rfl, rfl⟩)
      refine HMO.out.mono ?_
      rintro e w9 ⟨ar, cr, rfl, hb9, f, hf1, hf2⟩
      have HF1 := Lib.hid (hf1.below hb9)
      have HF2 := Lib.hid hf2
      have HB9 := Lib.hid (HH.out.bel.trans (Below.mono hb9 HH.out.bel.size))
      clear hf1 hf2 hb9 HMO
      go_wp2_with fail
      refine (same_gf f ml ma ar mc cr w9 (by omega) HF1 HF2).mono ?_
      rintro e w' ⟨rfl, q, rfl⟩
      go_wp2_with fail
      go_ret
      exact ⟨by simp, below_drewN HB9.out q⟩
set_option maxRecDepth 100000 in
set_option maxHeartbeats 4000000 in
theorem reedSays_ok (ao : Option Addr) (ln cap : Nat) (zs : List Int) (N : Nat) (bo : Option Addr) (lm cap2 : Nat) (cs : List (Bool × Int)) (k : Int) (w : World) (h1 : IntsIn .u8 w ao ln zs) (h2 : FlagsIn .u8 w bo lm cs) (hz : putE ln N = 0) :
    Calls Try.prog 10 #[.slice ao ln cap, .int .i64 N, .slice bo lm cap2, .int .i64 k] w fun e w' => e = .returned (.bool true) ∧ Below w.heap.size w w' := by
  have hl1 := h1.2.1
  have hl2 := h2.2.1
  have HP := Lib.hid (reed_Put_any (gfOfI zs) ln N ao cap w (bytes_of h1))
  have HM := Lib.hid (fun W (hc : Reads W bo (cellV (hasOf cs) (gfOf cs) lm)) => reed_Mend_any (hasOf cs) (gfOf cs) lm k bo cap2 W hc)
  have HCH := Lib.hid (fun W => reed_Check lm k bo cap2 W)
  have HC := Lib.hid (cells_of h2)
  have HY := Lib.hid (bytes_of h1)
  have hchk := chk_cases lm k
  obtain ⟨p1, p2, p3, p4⟩ := put_ok hz
  have hRO := Lib.hid (fun W ro cro (hx : Reads W ro (rowF ln (gfV gf))) (hy : Reads W ao (rowF ln (gfV (gfOfI zs)))) => ref_RowOf gf (gfOfI zs) ln N ro ao cro cap W p1 (by omega) (by omega) (Lib.hid (fun i j hi hj hij he => hij (gf_inj (by omega) (by omega) he))) (Lib.hid hx) (Lib.hid hy))
  have HZ := Lib.hid hz
  clear h1 h2 hz
  go_enter Try.func10, Try.ntmps10
  go_wp2_with fail
  refine HP.out.mono ?_
  rintro e w1 ⟨pa, pn, pc, E1, rfl, hb1, hp⟩
  have HPP := Lib.hid hp
  have HB1 := Lib.hid hb1
  have HC1 := Lib.hid (HC.out.below hb1)
  clear hp hb1 HP
  go_wp2_with fail
  refine (HM.out _ HC1.out).mono ?_
  rintro e w2 ⟨ma, ml, mc, E2, rfl, hb2, hm⟩
  have HH := Lib.hid (Half.of HB1.out HC1.out hb2 hm)
  have HB12 := Lib.hid hb2
  clear hm hb2 HM
  have hE1 : E1 = 0 ∧ pn = N ∧ Reads w1 pa (rowF N (gfV fun j => lag gf (gfOfI zs) ln (gf j))) := by
    have hN : (N : Int).toNat = N := by omega
    rcases HPP.out with ⟨m1, _⟩ | ⟨_, m2, m3, m4⟩
    · exact absurd HZ.out m1
    · rw [hN] at m3 m4; exact ⟨m2, m3, m4⟩
  obtain ⟨rfl, rfl, hpr⟩ := hE1
  have HPR := Lib.hid (hpr.below HB12.out)
  have HY2 := Lib.hid (HY.out.below HH.out.bel)
  clear HPP HB12 HZ hpr
  have d1 : decide ((ln : Int) < 1) = false := by simp; omega
  have d2 : decide ((20 : Int) < ln) = false := by simp; omega
  have d3 : decide ((pn : Int) < (ln : Int)) = false := by simp; omega
  have d3' : decide (pn < ln) = false := by simp; omega
  have d4 : decide ((20 : Int) < pn) = false := by simp; omega
  have d4' : decide (20 < pn) = false := by simp; omega
  go_wp2_with fail
  go_loopw [13, 14, 32] (fun vo _ vx wr => ∃ x : Nat, vx = .int .i64 x ∧ x ≤ ln ∧ Hid (wr.ownsRow w2.heap.size 5 1 vo x (rowF x (gfV gf))) ∧ Hid (Below w2.heap.size w2 wr)) (fun _ _ vx _ => ln - (intOf vx).toNat)
  case atStart => exact ⟨0, rfl, by omega, World.ownsRow_nil _ _ _ _, Below.refl _ _⟩
  case round =>
    obtain ⟨x, rfl, hxn, hrow, hb⟩ := hrel
    by_cases hx1 : x < ln
    · have hv : Hid (Value.int .u8 (x : Int) = gfV gf x) := by
        show _ = _
        unfold gfV
        rw [gf_val (by omega)]
      have wx := wrap_u8 x (by omega)
      go_wp2_with (at_builtin; go_must (refine app_one rfl (.tmp 35) (.tmp 38) _ rfl w2.heap.size 5 _ 1 1 Try.underlying91 u8Info u13 x (rowF x (gfV gf)) (by rfl) hrow.out [.int .u8 (x : Int)] (by rfl) rfl (by intro u hu; simp at hu; subst hu; rfl) (by unfold maxLen; omega) (by omega) hb.out.size ?_); intro v2 w3 hown2 hgr2 hb3)
      have hrow3 : Hid (w3.ownsRow w2.heap.size 5 1 v2 (x + 1) (rowF (x + 1) (gfV gf))) := by
        show World.ownsRow _ _ _ _ _ _ _
        rw [rowF_succ, ← hv.out]; exact hown2
      have hb4 := Lib.hid (hb.out.trans hb3)
      clear hown2 hgr2 hb3
      go_roundw
      case rel => exact ⟨x + 1, by go_num, by omega, hrow3, hb4⟩
      case measure => simp [intOf]; omega
    · have hx2 : x = ln := by omega
      obtain ⟨ao2, cp2, hv2, hR2, hn2, hm2⟩ := own_reads hrow.out
      rw [hx2] at hR2 hv2
      subst hv2
      have HR := Lib.hid hR2
      have HY3 := Lib.hid (HY2.out.below hb.out)
      have HP3 := Lib.hid (HPR.out.below hb.out)
      have HH3 := Lib.hid (HH.out.later hb.out)
      clear hR2 hn2 hm2 hx2 HPR HH
      go_wp2_with fail
      refine (hRO.out wr ao2 cp2 HR.out HY3.out).mono ?_
      rintro e w4 ⟨v4, rfl, hO4, hb4⟩
      obtain ⟨a4, c4, rfl, hR4, _, _⟩ := own_reads hO4
      have HR4 := Lib.hid hR4
      have HP4 := Lib.hid (HP3.out.below hb4)
      have HH4 := Lib.hid (HH3.out.later hb4)
      clear hO4 hb4 hR4 HP3 HH3 hRO
      go_wp2_with fail
      refine (equal_gf (fun j => lag gf (gfOfI zs) ln (gf j)) pn pa a4 pc c4 w4 (by omega) HP4 HR4).mono ?_
      rintro e w' ⟨rfl, q4, rfl⟩
      have HH := Lib.hid (HH4.out.later (below_dr _ _ q4))
      clear HP4 HR4 HH4
      rcases hchk with ⟨q1, q0⟩ | ⟨q1, q2, q0⟩ | ⟨q1, q2, q3, q0⟩ | ⟨q1, q2, q3, q0⟩
      · have f1 : decide ((20 : Int) < lm) = true := by simp; omega
        have hE : E2 = 2 ∧ ml = 0 := by
          rcases HH.out.mend with ⟨_, m2, m3⟩ | ⟨m1, _⟩
          · exact ⟨by rw [m2, q0], m3⟩
          · rw [q0] at m1; cases m1
        obtain ⟨rfl, rfl⟩ := hE
        rw [q0] at HCH
        clear q0
        go_wp2_with (go_at_call 66; refine (HCH.out _).mono ?_; rintro e w' ⟨rfl, rfl⟩)
        go_ret
        exact ⟨by simp, HH.out.bel⟩
      · have f1 : decide ((20 : Int) < lm) = false := by simp; omega
        have f2 : decide (k < 1) = true := by simp; omega
        have hE : E2 = 1 ∧ ml = 0 := by
          rcases HH.out.mend with ⟨_, m2, m3⟩ | ⟨m1, _⟩
          · exact ⟨by rw [m2, q0], m3⟩
          · rw [q0] at m1; cases m1
        obtain ⟨rfl, rfl⟩ := hE
        rw [q0] at HCH
        clear q0
        go_wp2_with (go_at_call 66; refine (HCH.out _).mono ?_; rintro e w' ⟨rfl, rfl⟩)
        go_ret
        exact ⟨by simp, HH.out.bel⟩
      · have f1 : decide ((20 : Int) < lm) = false := by simp; omega
        have f2 : decide (k < 1) = false := by simp; omega
        have f3 : decide ((lm : Int) < k) = true := by simp; omega
        have hE : E2 = 1 ∧ ml = 0 := by
          rcases HH.out.mend with ⟨_, m2, m3⟩ | ⟨m1, _⟩
          · exact ⟨by rw [m2, q0], m3⟩
          · rw [q0] at m1; cases m1
        obtain ⟨rfl, rfl⟩ := hE
        rw [q0] at HCH
        clear q0
        go_wp2_with (go_at_call 66; refine (HCH.out _).mono ?_; rintro e w' ⟨rfl, rfl⟩)
        go_ret
        exact ⟨by simp, HH.out.bel⟩
      · have f1 : decide ((20 : Int) < lm) = false := by simp; omega
        have f2 : decide (k < 1) = false := by simp; omega
        have f3 : decide ((lm : Int) < k) = false := by simp; omega
        have hmm : _ := HH.out.mend
        rw [q0] at HCH hmm
        obtain ⟨K, rfl⟩ : ∃ K : Nat, k = K := ⟨k.toNat, by omega⟩
        have hK : (K : Int).toNat = K := by omega
        rw [hK] at hmm
        have HMO := Lib.hid (ref_MendOf_both (hasOf cs) (gfOf cs) lm K bo cap2 _ q1 (by omega) (by omega) HH.out.cel ma ml E2 (by
          rcases hmm with ⟨m1, _⟩ | ⟨_, m2⟩
          · exact absurd rfl m1
          · exact m2))
        have hml : ml ≤ 20 := by rcases hmm with ⟨m1, _⟩ | ⟨_, ⟨_, _, m⟩ | ⟨_, _, _, m⟩ | ⟨_, _, _, m, _⟩⟩ <;> (first | exact absurd rfl m1 | omega)
        have f4 : (E2 == E2) = true := by simp
        clear q0 hmm
        go_wp2_with (go_at_call 66; refine (HCH.out _).mono ?_; rintro e w' ⟨rfl, rfl⟩)
        refine HMO.out.mono ?_
        rintro e w9 ⟨ar, cr, rfl, hb9, f, hf1, hf2⟩
        have HF1 := Lib.hid (hf1.below hb9)
        have HF2 := Lib.hid hf2
        have HB9 := Lib.hid (HH.out.bel.trans (Below.mono hb9 HH.out.bel.size))
        clear hf1 hf2 hb9 HMO
        go_wp2_with fail
        refine (same_gf f ml ma ar mc cr w9 (by omega) HF1 HF2).mono ?_
        rintro e w' ⟨rfl, q, rfl⟩
        go_wp2_with fail
        go_ret
        exact ⟨by simp, below_drewN HB9.out q⟩
theorem reedSays_walk (ao : Option Addr) (ln cap : Nat) (zs : List Int) (N : Int) (bo : Option Addr) (lm cap2 : Nat) (cs : List (Bool × Int)) (k : Int) (w : World) (h1 : IntsIn .u8 w ao ln zs ∧ CapOk ao ln cap) (_ : (Lit.int .i64 N).wf = true) (h2 : FlagsIn .u8 w bo lm cs ∧ CapOk bo lm cap2) (_ : (Lit.int .i64 k).wf = true) :
    Calls Try.prog 10 #[.slice ao ln cap, .int .i64 N, .slice bo lm cap2, .int .i64 k] w fun e w' => e = .returned (.bool true) ∧ Below w.heap.size w w' := by
  by_cases hz : putE ln N = 0
  · obtain ⟨_, _, _, _⟩ := put_ok hz
    obtain ⟨M, rfl⟩ : ∃ M : Nat, N = M := ⟨N.toNat, by omega⟩
    exact reedSays_ok ao ln cap zs M bo lm cap2 cs k w h1.1 h2.1 hz
  · exact reedSays_bad ao ln cap zs N bo lm cap2 cs k w h1.1 h2.1 hz
end Go.Proofs.Ytkincmkmkfiglaa
