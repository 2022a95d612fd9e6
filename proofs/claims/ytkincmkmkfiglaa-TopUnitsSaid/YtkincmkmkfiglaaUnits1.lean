/- Contracts of wholekeep.Within, divide.Phi, wholetop.good, wholetop.works. -/
import Derived.Test.YtkincmkmkfiglaaRows
import Derived.Test.YtkincmkmkfiglaaUnitsM
import Derived.Test.YtkincmkmkfiglaaRest
import Derived.Test.YtkincmkmkfiglaaFactor
import Derived.Test.YtkincmkmkfiglaaDivide
import Derived.Test.YtkincmkmkfiglaaSlicesE
import Derived.Test.YtkincmkmkfiglaaReedPut
import Derived.Test.YtkincmkmkfiglaaEuclid
namespace Go.Proofs.Ytkincmkmkfiglaa
open Go.RowKit

theorem keep_Within (k n : Int) (w : World) (hk : -9223372036854775808 ≤ k) (hk' : k ≤ 9223372036854775807) (hn : 1 ≤ n) (hn' : n ≤ 1000000000) :
    Calls Try.prog 33 #[.int .i64 k, .int .i64 n] w fun e w' => e = .returned (.int .i64 (k % n)) ∧ ∃ m, w' = w.drewN m := by
  go_enter Try.func33, Try.ntmps33
  go_wp2_with (go_at_call 98; refine (ref_Rest k n _ hk hk' hn hn').mono ?_; rintro e w' ⟨rfl, m, rfl⟩)
  go_ret
  exact ⟨rfl, _, rfl⟩
theorem good1 (x : Int) (w : World) : Calls Try.prog 104 #[.int .i64 x] w fun e w' => e = .returned (.bool (x != 0)) ∧ w = w' := by
  go_enter Try.func104, Try.ntmps104
  go_wp2_with fail
  go_ret
  exact ⟨rfl, rfl⟩
theorem hfnG : ∀ (x : Value) (W : World), (callFunc 104 #[x]).run Try.prog W = .ok (.enter 104 #[x]) W := by
  intro x W
  show (_ : Result _) = _
  kernel_rfl
theorem good_three (ao : Option Addr) (cap : Nat) (w : World) (hR : Hid (Reads w ao [.int .i64 0, .int .i64 0, .int .i64 0])) :
    Calls Try.prog 38 #[.slice ao 3 cap] w fun e w' => e = .returned (.bool true) ∧ ∃ m, w' = w.drewN m := by
  have h := containsFunc_err 104 hfnG (fun x => x != 0) [0, 0, 0] ao cap w (by simp) hR (Lib.hid fun x _ n => (good1 x _).mono fun e w' hh => ⟨hh.1, 0, hh.2.symm⟩)
  have e : ([0, 0, 0] : List Int).any (fun x => x != 0) = false := by decide
  rw [e] at h
  have HC := Lib.hid h
  clear h e
  go_enter Try.func38, Try.ntmps38
  go_wp2_with fail
  refine HC.out.mono ?_
  rintro e w' ⟨rfl, m, rfl⟩
  go_wp2_with fail
  go_ret
  exact ⟨rfl, m, rfl⟩
theorem prodPow_cons (a : Nat × Nat) (l : List (Nat × Nat)) : prodPow (a :: l) = a.1 ^ a.2 * prodPow l := rfl
set_option maxRecDepth 20000 in
set_option maxHeartbeats 1000000 in
theorem divide_Phi (n : Nat) (w : World) (h1 : 1 ≤ n) (hn : n ≤ 1000000) :
    Calls Try.prog 36 #[.int .i64 n] w fun e w' => (∃ f : Nat, (f : Int) = phi n ∧ f ≤ n ∧ e = .returned (.tuple #[.int .i64 f, .int .i64 0])) ∧ Below w.heap.size w w' := by
  go_enter Try.func36, Try.ntmps36
  go_wp2_with fail
  refine (prime_Factor n w h1 hn).mono ?_
  rintro e w1 ⟨l, v, hF, hll, rfl, hown, hbel⟩
  obtain ⟨ao, cp, rfl, hR, hnone, hmx⟩ := own_reads hown
  have HF := Lib.hid hF
  have HR := Lib.hid hR
  have HB := Lib.hid hbel
  have HMU : Hid (phi n = valL phiG l) := mult_eq hF
  obtain ⟨len, hlen⟩ : ∃ len, l.length = len := ⟨_, rfl⟩
  rw [hlen] at hll ⊢
  have HL := Lib.hid hlen
  clear hF hR hnone hmx hown hbel hlen
  go_wp2_with fail
  go_loopw [0, 18] (fun vo vi wr => ∃ (k c : Nat), vi = .int .i64 k ∧ k ≤ len ∧ vo = .int .i64 c ∧ c ≤ n ∧ Hid ((c : Int) = valL phiG (l.take k) * (prodPow (l.drop k) : Nat)) ∧ Hid (Below w1.heap.size w1 wr)) (fun _ vi _ => len - (intOf vi).toNat)
  case atStart => exact ⟨0, n, rfl, by omega, rfl, Nat.le_refl _, Lib.hid (by
    show _ = _
    rw [List.take_zero, List.drop_zero, HF.out.prod]
    show _ = 1 * _
    rw [Int.one_mul]), Below.refl _ _⟩
  case round =>
    obtain ⟨k, c, rfl, hk, rfl, hcn, hc, hb⟩ := hrel
    by_cases hkl : k < len
    · obtain ⟨a, ha⟩ : ∃ a, l[k]? = some a := ⟨l[k]'(by rw [HL.out]; exact hkl), List.getElem?_eq_getElem _⟩
      have hma := List.mem_of_getElem? ha
      obtain ⟨P, N⟩ := a
      have hN1 := (HF.out.pr _ hma).2
      have hP2 := (HF.out.pr _ hma).1.1
      simp only at hN1 hP2
      obtain ⟨M, rfl⟩ : ∃ M, N = M + 1 := ⟨N - 1, by omega⟩
      have hdrop : l.drop k = (P, M + 1) :: l.drop (k + 1) := by
        have hlt : k < l.length := by rw [HL.out]; exact hkl
        have hge := List.getElem?_eq_getElem hlt
        rw [ha] at hge
        rw [List.drop_eq_getElem_cons hlt, ← Option.some.inj hge]
      have hstep : Hid (((c / P * (P - 1) : Nat) : Int) = valL phiG (l.take (k + 1)) * (prodPow (l.drop (k + 1)) : Nat)) := by
        have h2 := hc.out
        rw [hdrop, prodPow_cons] at h2
        have h3 := phi_step (by omega) h2
        show _ = _
        rw [take_snoc2 l k _ ha, valL_append]
        show _ = valL phiG (l.take k) * (phiG P (M + 1) * 1) * _
        rw [Int.mul_one]
        exact h3
      have hple := phi_le c P
      obtain ⟨d, hd⟩ : ∃ d, c / P = d := ⟨_, rfl⟩
      have hdc : d ≤ c := by rw [← hd]; exact Nat.div_le_self _ _
      have ed : (c : Int) / (P : Int) = (d : Int) := by rw [← hd]; push_cast; rfl
      obtain ⟨u, hu⟩ : ∃ u, d * (P - 1) = u := ⟨_, rfl⟩
      rw [hd, hu] at hstep hple
      have eu : (d : Int) * ((P : Int) - 1) = (u : Int) := by rw [← hu, show (P : Int) - 1 = ((P - 1 : Nat) : Int) by omega]; push_cast; rfl
      have wd : IntKind.i64.wrap (d : Int) = (d : Int) := IntWalk.i64_in _ (by omega)
      have wu : IntKind.i64.wrap (u : Int) = (u : Int) := IntWalk.i64_in _ (by omega)
      have hPn : P ≤ n := Nat.le_of_dvd (by omega) (by have := dvd_prodPow hma (by omega); rw [HF.out.prod] at this; exact this)
      have wP : IntKind.i64.wrap ((P : Int) - 1) = (P : Int) - 1 := IntWalk.i64_in _ (by omega)
      have hP0 : ¬ ((P : Int) = 0) := by omega
      have hP0' : ¬ (P = 0) := by omega
      have hc1 := powCells_get l k _ ha
      have hR2 := (HR.out).below hb.out
      obtain ⟨b, of, rfl, hcell1⟩ := hR2 _ _ hc1.1
      obtain ⟨b', of', hbo, hcell2⟩ := hR2 _ _ hc1.2
      simp only [Option.some.injEq, Addr.mk.injEq, and_true] at hbo
      obtain ⟨rfl, rfl⟩ := hbo
      have hcell1' : wr.cell? ⟨b, of + k * 2, none⟩ = some (.int .i64 P) := hcell1
      have hcell2' : wr.cell? ⟨b, of + k * 2 + 1, none⟩ = some (.int .i64 ((M + 1 : Nat) : Int)) := hcell2
      have cb1 : (wr.alloc (.cells #[.int .i64 P, .int .i64 ((M + 1 : Nat) : Int)] 141)).cell? ⟨wr.heap.size, 0, none⟩ = some (.int .i64 P) := by simp [World.cell?_alloc_new]
      have HB9 := Lib.hid (hb.out.alloc hb.out.size (.cells #[.int .i64 P, .int .i64 ((M + 1 : Nat) : Int)] 141))
      clear hR2 hc1 ha hma hcell1 hcell2 hdrop hd hu
      go_wp2_with fail
      go_quiet (fail)
      go_wp2_with fail
      go_roundw
      case rel => exact ⟨k + 1, u, by go_num, by omega, rfl, by omega, hstep, Lib.hid (by repeat (first | exact HB9.out | apply below_drewN | (exact hb.out.alloc hb.out.size _)))⟩
      case measure => simp [intOf]; omega
    · have hfin : Hid ((c : Int) = phi n) := by
        have hkk : k = l.length := by rw [HL.out]; omega
        have h2 := hc.out
        rw [hkk, List.take_length, List.drop_length] at h2
        show _ = _
        rw [HMU.out, h2]
        show _ * ((1 : Nat) : Int) = _
        rw [Int.natCast_one, Int.mul_one]
      go_wp2_with fail
      go_ret2
      exact ⟨⟨c, hfin.out, hcn, rfl⟩, HB.out.trans (Below.mono hb.out HB.out.size)⟩
def w57 (j : Nat) : GF := gf (if j = 0 then 5 else 7)
theorem works_row : (lag gf w57 2 (gf 2)).val = 1 := by decide +kernel
set_option maxRecDepth 20000 in
theorem top_works (w : World) : Calls Try.prog 35 #[] w fun e w' => e = .returned (.bool true) ∧ Below w.heap.size w w' := by
  have HG := Lib.hid (fun W => euclid_Gcd 12 18 W (by omega) (by omega) (by omega) (by omega))
  have eg : gI 12 18 = 6 := by decide
  rw [eg] at HG
  have HP := Lib.hid (fun W ao (hy : Reads W ao (rowF 2 (gfV w57))) => reed_Put w57 2 3 ao 2 W (by omega) (by omega) (by omega) (Lib.hid hy))
  have e57 : rowF 2 (gfV w57) = [.int .u8 5, .int .u8 7] := by rfl
  clear eg
  go_enter Try.func35, Try.ntmps35
  go_wp2_with fail
  refine (HG.out _).mono ?_
  rintro e w1 ⟨rfl, q, rfl⟩
  go_wp2_with fail
  refine (HP.out _ _ (by rw [e57]; exact reads_new (w.drewN q) #[.int .u8 5, .int .u8 7] _)).mono ?_
  rintro e w2 ⟨g, cp, rfl, hO, hb2⟩
  have c2 := hO.cell (i := 2) (by omega)
  have hv : gfV (fun j => lag gf w57 2 (gf j)) 2 = .int .u8 1 := by unfold gfV; rw [works_row]; rfl
  rw [hv] at c2
  have HB2 : Hid (Below w.heap.size w w2) := (Below.alloc (below_dr w.heap.size w q) (Nat.le_refl _) _).trans (Below.mono hb2 (by simp))
  clear hO hb2 hv HP HG
  go_wp2_with fail
  go_ret
  exact ⟨by simp, HB2.out⟩
end Go.Proofs.Ytkincmkmkfiglaa
