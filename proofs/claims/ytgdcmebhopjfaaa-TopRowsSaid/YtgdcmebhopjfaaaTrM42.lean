/- ReedSays: for arbitrary data and cells, all functions of package reed answer what the reference answers. Conditions: none. -/
import Derived.Test.YtgdcmebhopjfaaaRows
import Derived.Test.YtgdcmebhopjfaaaReed7
import Derived.Test.YtgdcmebhopjfaaaTrM11
import Derived.Test.YtgdcmebhopjfaaaTrM4
import Derived.Test.YtgdcmebhopjfaaaTrM15
namespace Go.Proofs.Ytgdcmebhopjfaaa
open Go.RowKit

def gfL (f : Nat → GF) (n : Nat) : List Int := (List.range n).map fun j => ((f j).val : Int)
theorem gfL_len (f : Nat → GF) (n : Nat) : (gfL f n).length = n := by simp [gfL]
theorem gfL_map (f : Nat → GF) (n : Nat) : (gfL f n).map (Value.int .u8) = rowF n (gfV f) := by simp [gfL, rowF, gfV, List.map_map, Function.comp_def]
theorem equal_gf (f : Nat → GF) (n : Nat) (ao bo : Option Addr) (ca cb : Nat) (w : World) (hn : n ≤ 9223372036854775807) (hX : Hid (Reads w ao (rowF n (gfV f)))) (hY : Hid (Reads w bo (rowF n (gfV f)))) :
    Calls Try.prog 58 #[.slice ao n ca, .slice bo n cb] w fun e w' => e = .returned (.bool true) ∧ ∃ n, w' = w.drewN n := by
  have h := equal_u8 (gfL f n) (gfL f n) ao bo ca cb w (by rw [gfL_len]; exact hn) (by rw [gfL_len]; exact hn) (by rw [gfL_map]; exact hX) (by rw [gfL_map]; exact hY)
  rw [gfL_len, decide_eq_true rfl] at h
  exact h
theorem same_gf (f : Nat → GF) (n : Nat) (ao bo : Option Addr) (ca cb : Nat) (w : World) (hn : n ≤ 9223372036854775807) (hX : Hid (Reads w ao (rowF n (gfV f)))) (hY : Hid (Reads w bo (rowF n (gfV f)))) :
    Calls Try.prog 112 #[.slice ao n ca, .slice bo n cb] w fun e w' => e = .returned (.bool true) ∧ ∃ n, w' = w.drewN n := by
  go_enter Try.func112, Try.ntmps112
  go_wp2_with fail
  refine (equal_gf f n ao bo ca cb w hn hX hY).mono ?_
  rintro e w' ⟨rfl, m, rfl⟩
  go_wp2_with fail
  go_ret
  exact ⟨rfl, m, rfl⟩
/-- What Mend answers, whatever is handed in. -/
def MendAny (H : Nat → Bool) (B : Nat → GF) (n : Nat) (k : Int) (w : World) (e : Ending) (w' : World) : Prop :=
  ∃ am lm cm E, e = .returned (.tuple #[.slice am lm cm, .int .i64 E]) ∧ Below w.heap.size w w' ∧
    ((chkE 20 n k ≠ 0 ∧ E = chkE 20 n k ∧ lm = 0) ∨ (chkE 20 n k = 0 ∧ (pl H n).length < k.toNat ∧ E = 9 ∧ am = none ∧ lm = 0 ∧ cm = 0) ∨
     (chkE 20 n k = 0 ∧ k.toNat ≤ (pl H n).length ∧ ¬ Fit H B (pl H n) k.toNat n ∧ E = 8 ∧ am = none ∧ lm = 0 ∧ cm = 0) ∨
     (chkE 20 n k = 0 ∧ k.toNat ≤ (pl H n).length ∧ Fit H B (pl H n) k.toNat n ∧ E = 0 ∧ lm = n ∧ Reads w' am (rowF n (gfV fun j => rowP B (pl H n) k.toNat (gf j)))))
theorem chk_ok {n : Nat} {k : Int} (h : chkE 20 n k = 0) : n ≤ 20 ∧ 1 ≤ k ∧ k ≤ n := by
  unfold chkE at h
  split at h
  · cases h
  · split at h
    · cases h
    · omega
set_option maxRecDepth 20000 in
theorem reed_Mend_bad (n : Nat) (k : Int) (ao : Option Addr) (cap : Nat) (w : World) (h : chkE 20 n k ≠ 0) :
    Calls Try.prog 56 #[.slice ao n cap, .int .i64 k] w fun e w' => e = .returned (.tuple #[.slice none 0 0, .int .i64 (chkE 20 n k)]) ∧ w = w' := by
  have HC := Lib.hid (reed_Check n k ao cap w)
  obtain ⟨E, hE⟩ : ∃ E, chkE 20 n k = E := ⟨_, rfl⟩
  rw [hE] at HC h ⊢
  have d : (E != 0) = true := by simpa using h
  clear hE h
  go_enter Try.func56, Try.ntmps56
  go_wp2_with fail
  refine HC.out.mono ?_
  rintro e w' ⟨rfl, rfl⟩
  go_wp2_with fail
  go_ret2
  exact ⟨rfl, rfl⟩
theorem reed_Mend_any (H : Nat → Bool) (B : Nat → GF) (n : Nat) (k : Int) (ao : Option Addr) (cap : Nat) (w : World) (hR : Reads w ao (cellV H B n)) :
    Calls Try.prog 56 #[.slice ao n cap, .int .i64 k] w (MendAny H B n k w) := by
  by_cases h : chkE 20 n k = 0
  · obtain ⟨h1, h2, h3⟩ := chk_ok h
    obtain ⟨m, rfl⟩ : ∃ m : Nat, k = m := ⟨k.toNat, by omega⟩
    refine (reed_Mend H B n m ao cap w h1 (by omega) (by omega) hR).mono ?_
    rintro e w' ⟨hb, hh⟩
    have hm : (m : Int).toNat = m := by omega
    unfold MendAny
    rw [hm]
    rcases hh with ⟨a1, rfl⟩ | ⟨a1, a2, rfl⟩ | ⟨a1, a2, v, rfl, hv⟩
    · exact ⟨_, _, _, _, rfl, hb, .inr (.inl ⟨h, a1, rfl, rfl, rfl, rfl⟩)⟩
    · exact ⟨_, _, _, _, rfl, hb, .inr (.inr (.inl ⟨h, a1, a2, rfl, rfl, rfl, rfl⟩))⟩
    · obtain ⟨av, cv, rfl, hR, _, _⟩ := own_reads hv
      exact ⟨_, _, _, _, rfl, hb, .inr (.inr (.inr ⟨h, a1, a2, rfl, rfl, hR⟩))⟩
  · refine (reed_Mend_bad n k ao cap w h).mono ?_
    rintro e w' ⟨rfl, rfl⟩
    exact ⟨_, _, _, _, rfl, Below.refl _ _, .inl ⟨h, rfl, rfl⟩⟩
/-- Cells and bytes as they came in. -/
def hasOf (cs : List (Bool × Int)) (j : Nat) : Bool := (cs.getD j (false, 0)).1
def gfOf (cs : List (Bool × Int)) (j : Nat) : GF := gf (cs.getD j (false, 0)).2.toNat
def gfOfI (zs : List Int) (j : Nat) : GF := gf (zs.getD j 0).toNat
theorem cells_of {w : World} {ao : Option Addr} {n : Nat} {cs : List (Bool × Int)} (h : FlagsIn .u8 w ao n cs) : Reads w ao (cellV (hasOf cs) (gfOf cs) n) := by
  have e : (List.range n).map (fun i => ((.bool (hasOf cs i), gfV (gfOf cs) i) : Value × Value)) = cs.map fun z => (.bool z.1, .int .u8 z.2) := by
    apply List.ext_getElem?
    intro j
    have hl := h.1
    by_cases hj : j < n
    · have hj2 : j < cs.length := by omega
      have hw := u8_wf (h.2.2.1 _ (List.getElem_mem hj2))
      rw [List.getElem?_map, List.getElem?_map, List.getElem?_eq_getElem hj2]
      simp only [List.getElem?_range hj, Option.map_some, hasOf, gfOf, gfV, List.getD_eq_getElem?_getD, List.getElem?_eq_getElem hj2, Option.getD_some]
      rw [gf_val (by omega), Int.toNat_of_nonneg hw.1]
    · rw [List.getElem?_eq_none (by simp; omega), List.getElem?_eq_none (by simp; omega)]
  unfold cellV
  rw [e]; exact h.2.2.2
theorem bytes_of {w : World} {ao : Option Addr} {n : Nat} {zs : List Int} (h : IntsIn .u8 w ao n zs) : Reads w ao (rowF n (gfV (gfOfI zs))) := by
  have hl := h.1
  have e : zs.map (Value.int .u8) = rowF n (gfV (gfOfI zs)) := by
    rw [map_rowF zs (Value.int .u8) 0, hl]
    refine rowF_congr fun j hj => ?_
    have hj2 : j < zs.length := by omega
    have hw := u8_wf (h.2.2.1 _ (List.getElem_mem hj2))
    unfold gfV gfOfI
    rw [List.getD_eq_getElem?_getD, List.getElem?_eq_getElem hj2]
    simp only [Option.getD_some]
    rw [gf_val (by omega), Int.toNat_of_nonneg hw.1]
  rw [← e]; exact h.2.2.2
/-- What Put answers, whatever is handed in. -/
def PutAny (ys : Nat → GF) (n : Nat) (N : Int) (w : World) (e : Ending) (w' : World) : Prop :=
  ∃ am lm cm E, e = .returned (.tuple #[.slice am lm cm, .int .i64 E]) ∧ Below w.heap.size w w' ∧
    ((putE n N ≠ 0 ∧ E = putE n N ∧ lm = 0) ∨ (putE n N = 0 ∧ E = 0 ∧ lm = N.toNat ∧ Reads w' am (rowF N.toNat (gfV fun j => lag gf ys n (gf j)))))
theorem put_ok {n : Nat} {N : Int} (h : putE n N = 0) : 1 ≤ n ∧ n ≤ 20 ∧ (n : Int) ≤ N ∧ N ≤ 20 := by
  unfold putE at h
  split at h
  · cases h
  · split at h
    · cases h
    · omega
theorem reed_Put_any (ys : Nat → GF) (n : Nat) (N : Int) (ao : Option Addr) (cap : Nat) (w : World) (hy : Reads w ao (rowF n (gfV ys))) :
    Calls Try.prog 55 #[.slice ao n cap, .int .i64 N] w (PutAny ys n N w) := by
  by_cases h : putE n N = 0
  · obtain ⟨h1, h2, h3, h4⟩ := put_ok h
    obtain ⟨m, rfl⟩ : ∃ m : Nat, N = m := ⟨N.toNat, by omega⟩
    refine (reed_Put ys n m ao cap w h1 (by omega) (by omega) hy).mono ?_
    rintro e w' ⟨g, cp, rfl, hO, hb⟩
    have hm : (m : Int).toNat = m := by omega
    unfold PutAny
    rw [hm]
    exact ⟨_, _, _, _, rfl, hb, .inr ⟨h, rfl, rfl, hO.reads⟩⟩
  · refine (reed_Put_bad n N ao cap w h).mono ?_
    rintro e w' ⟨rfl, rfl⟩
    exact ⟨_, _, _, _, rfl, Below.refl _ _, .inl ⟨h, rfl, rfl⟩⟩
end Go.Proofs.Ytgdcmebhopjfaaa
namespace Go.Proofs.Ytgdcmebhopjfaaa
open Go.RowKit
theorem u64_in (x : Int) (h0 : 0 ≤ x) (h1 : x < 18446744073709551616) : IntKind.u64.wrap x = x := by
  simp only [IntKind.wrap, IntKind.signed, IntKind.bits]
  simp
  omega
theorem ofInt_u64 (a : Nat) (ha : a < 18446744073709551616) : (BitVec.ofInt 64 (a : Int)).toNat = a := by
  rw [BitVec.ofInt_natCast, BitVec.toNat_ofNat]; exact Nat.mod_eq_of_lt (by omega)
theorem u64_and_nat (a b : Nat) (ha : a < 18446744073709551616) (hb : b < 18446744073709551616) : bits .and .u64 (a : Int) (b : Int) = ((a &&& b : Nat) : Int) := by
  have hx : a &&& b < 2 ^ 64 := Nat.and_lt_two_pow _ (by omega)
  show IntKind.u64.wrap ((BitVec.ofInt 64 (a : Int) &&& BitVec.ofInt 64 (b : Int)).toNat : Int) = _
  rw [BitVec.toNat_and, ofInt_u64 a ha, ofInt_u64 b hb]
  exact u64_in _ (by omega) (by omega)
theorem u64_or_nat (a b : Nat) (ha : a < 18446744073709551616) (hb : b < 18446744073709551616) : bits .or .u64 (a : Int) (b : Int) = ((a ||| b : Nat) : Int) := by
  have hx : a ||| b < 2 ^ 64 := Nat.or_lt_two_pow (by omega) (by omega)
  show IntKind.u64.wrap ((BitVec.ofInt 64 (a : Int) ||| BitVec.ofInt 64 (b : Int)).toNat : Int) = _
  rw [BitVec.toNat_or, ofInt_u64 a ha, ofInt_u64 b hb]
  exact u64_in _ (by omega) (by omega)
theorem u64_xor_nat (a b : Nat) (ha : a < 18446744073709551616) (hb : b < 18446744073709551616) : bits .xor .u64 (a : Int) (b : Int) = ((a ^^^ b : Nat) : Int) := by
  have hx : a ^^^ b < 2 ^ 64 := Nat.xor_lt_two_pow (by omega) (by omega)
  show IntKind.u64.wrap ((BitVec.ofInt 64 (a : Int) ^^^ BitVec.ofInt 64 (b : Int)).toNat : Int) = _
  rw [BitVec.toNat_xor, ofInt_u64 a ha, ofInt_u64 b hb]
  exact u64_in _ (by omega) (by omega)
theorem u64_neg (r : Nat) (h0 : 0 < r) (h1 : r < 18446744073709551616) : IntKind.u64.wrap (-(r : Int)) = ((18446744073709551616 - r : Nat) : Int) := by
  simp only [IntKind.wrap, IntKind.signed, IntKind.bits]
  simp
  omega
end Go.Proofs.Ytgdcmebhopjfaaa
namespace Go.Proofs.Ytgdcmebhopjfaaa
def pop1 (x : Nat) : Nat := (x / 2 &&& 6148914691236517205) + (x &&& 6148914691236517205)
def pop2 (x : Nat) : Nat := (x / 4 &&& 3689348814741910323) + (x &&& 3689348814741910323)
def pop3 (x : Nat) : Nat := (x / 16 + x) &&& 1085102592571150095
def pop4 (x : Nat) : Nat := x + x / 256
def pop5 (x : Nat) : Nat := x + x / 65536
def pop6 (x : Nat) : Nat := x + x / 4294967296
def popOk (x : Nat) : Bool :=
  decide (pop1 x < 1000000000) && decide (pop2 (pop1 x) < 1000000000) && decide (pop3 (pop2 (pop1 x)) < 1000000000) && decide (pop4 (pop3 (pop2 (pop1 x))) < 1000000000) &&
  decide (pop5 (pop4 (pop3 (pop2 (pop1 x)))) < 1000000000) && decide (pop6 (pop5 (pop4 (pop3 (pop2 (pop1 x))))) < 1000000000) && decide (pop6 (pop5 (pop4 (pop3 (pop2 (pop1 x))))) &&& 127 = ones16 x)
theorem pop_all : ∀ x : Fin 64, ∀ y : Fin 64, popOk (64 * x.val + y.val) = true := by decide +kernel
theorem pop_ok {x : Nat} (h : x < 4096) : popOk x = true := by
  have h1 := pop_all ⟨x / 64, by omega⟩ ⟨x % 64, by omega⟩
  have e : 64 * (x / 64) + x % 64 = x := by omega
  simp only [e] at h1
  exact h1
end Go.Proofs.Ytgdcmebhopjfaaa
