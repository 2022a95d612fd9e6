/- Strings of 0 and 1 as polynomials over two elements: the plain law. -/
import Derived.Test.YtmgpohomgblkkaaDoorPolyM
import Derived.Test.YtmgpohomgblkkaaDoorStrB
import Derived.Lib.SlTrimSet
import Derived.Lib.Bytealg
namespace Go.Proofs.YtmgpohomgblkkaaDoor
open Go.RowKit

def isBit (b : UInt8) : Bool := [(48 : UInt8), 49].contains b
def bitsB (s : ByteArray) : Bool := s.data.toList.all isBit
theorem dropWhile_all {l : List UInt8} {q : UInt8 → Bool} : l.dropWhile q = [] ↔ l.all q = true := by
  induction l with
  | nil => simp
  | cons x t ih =>
    rw [List.dropWhile_cons]
    cases h : q x with
    | true => rw [if_pos rfl, ih]; simp [h]
    | false => rw [if_neg (by simp)]; simp [h]
theorem trim_bits (s : ByteArray) : ((⟨(Lib.trimS s.data.toList [48, 49]).toArray⟩ : ByteArray).toList == (ByteArray.mk #[]).toList) = bitsB s := by
  have key : Lib.trimS s.data.toList [48, 49] = [] ↔ bitsB s = true := by
    unfold Lib.trimS Lib.trimLeftS bitsB
    rw [dropWhile_all]
    unfold Lib.trimRightS
    constructor
    · intro h
      have h2 : (s.data.toList.reverse.dropWhile ([(48 : UInt8), 49].contains ·)) = [] := by
        cases hl : s.data.toList.reverse.dropWhile ([(48 : UInt8), 49].contains ·) with
        | nil => rfl
        | cons x t =>
          have hx : [(48 : UInt8), 49].contains x = false := by
            have := List.head?_dropWhile_not ([(48 : UInt8), 49].contains ·) s.data.toList.reverse
            rw [hl] at this
            simpa using this
          rw [hl, List.all_reverse] at h
          have := List.all_eq_true.1 h x (by simp)
          rw [hx] at this
          cases this
      rw [dropWhile_all, List.all_reverse] at h2
      exact h2
    · intro h
      have h2 : (s.data.toList.reverse.dropWhile ([(48 : UInt8), 49].contains ·)) = [] := dropWhile_all.2 (by rw [List.all_reverse]; exact h)
      rw [h2]
      rfl
  cases hb : bitsB s with
  | true => exact str_eq (by rw [key.2 hb])
  | false =>
    refine str_ne fun h => ?_
    have h2 := congrArg (fun x : ByteArray => x.data.toList) h
    simp at h2
    rw [key.1 (by simpa using h2)] at hb
    cases hb
theorem byteS_bit {s : ByteArray} (h : bitsB s = true) {k : Nat} (hk : k < s.size) : byteS s k = 48 ∨ byteS s k = 49 := by
  have hl : k < s.data.toList.length := by simpa using hk
  have hm := List.all_eq_true.1 h (s.data.toList[k]) (List.getElem_mem hl)
  unfold byteS
  rw [List.getD_eq_getElem?_getD, List.getElem?_eq_getElem hl]
  unfold isBit at hm
  simp only [List.contains_cons, List.contains_nil, Bool.or_false, Bool.or_eq_true, beq_iff_eq] at hm
  rcases hm with hm | hm
  · left; show (s.data.toList[k]).toNat = 48; rw [hm]; rfl
  · right; show (s.data.toList[k]).toNat = 49; rw [hm]; rfl
/-- The numbers of a text, the last byte first. -/
def numS (s : ByteArray) : List Int := (List.range s.size).map fun k => ((byteS s (s.size - 1 - k) : Nat) : Int) - 48
theorem numS_len (s : ByteArray) : (numS s).length = s.size := by simp [numS]
theorem numS_co (s : ByteArray) (k : Nat) : co (numS s) k = if k < s.size then ((byteS s (s.size - 1 - k) : Nat) : Int) - 48 else 0 := by
  unfold co numS
  rw [List.getElem?_map]
  by_cases h : k < s.size
  · rw [if_pos h, List.getElem?_range h]; rfl
  · rw [if_neg h, List.getElem?_eq_none (by simpa using h)]; rfl
theorem numS_InF {s : ByteArray} (h : bitsB s = true) : InF 2 (numS s) := by
  intro x hx
  obtain ⟨k, hk, rfl⟩ := List.mem_map.1 hx
  rw [List.mem_range] at hk
  rcases byteS_bit h (show s.size - 1 - k < s.size by omega) with h1 | h1 <;> rw [h1] <;> decide
/-- A right divisor. -/
structure ByOk (by' : ByteArray) : Prop where
  lo : 2 ≤ by'.size
  hi : by'.size ≤ 17
  bits : bitsB by' = true
  first : byteS by' 0 = 49
theorem cyc_DivOk {s d : ByteArray} (h : bitsB s = true) (D : ByOk d) : DivOk 2 1 (numS d) (numS s) := by
  refine ⟨by omega, numS_InF h, numS_InF D.bits, by rw [numS_len]; have := D.lo; omega, ?_⟩
  rw [numS_co, numS_len, if_pos (by have := D.lo; omega), show d.size - 1 - (d.size - 1) = 0 by omega, D.first]
  rfl
/-- What is left behind t steps. -/
def RR (s d : ByteArray) (t j : Nat) : Int := rdn 2 1 (numS d) (co (numS s)) (KOf (numS s) (numS d)) t j
theorem RR_bd {s d : ByteArray} (h : bitsB s = true) (D : ByOk d) (t j : Nat) : 0 ≤ RR s d t j ∧ RR s d t j < 2 := rdn_bd (cyc_DivOk h D) _ t j
/-- Byte p behind t steps. -/
def cb (s d : ByteArray) (t p : Nat) : Nat := 48 + (RR s d t (s.size - 1 - p)).toNat
theorem cb_bit {s d : ByteArray} (h : bitsB s = true) (D : ByOk d) (t p : Nat) : cb s d t p = 48 ∨ cb s d t p = 49 := by
  have := RR_bd h D t (s.size - 1 - p)
  unfold cb
  omega
theorem cb_zero {s d : ByteArray} (h : bitsB s = true) {p : Nat} (hp : p < s.size) : cb s d 0 p = byteS s p := by
  unfold cb RR
  show 48 + (co (numS s) _).toNat = _
  rw [numS_co, if_pos (by omega), show s.size - 1 - (s.size - 1 - p) = p by omega]
  rcases byteS_bit h hp with h1 | h1 <;> rw [h1] <;> rfl
theorem KOf_cyc (s d : ByteArray) : KOf (numS s) (numS d) = s.size + 1 - d.size := by unfold KOf; rw [numS_len, numS_len]
theorem RR_succ (s d : ByteArray) (t j : Nat) : RR s d (t + 1) j = (RR s d t j - RR s d t (KOf (numS s) (numS d) - 1 - t + (numS d).length - 1) * 1 * sh (numS d) (KOf (numS s) (numS d) - 1 - t) j) % 2 := rfl
/-- A step at a byte that is 0: nothing. -/
theorem cb_skip {s d : ByteArray} (h : bitsB s = true) (D : ByOk d) {t : Nat} (ht : t + d.size ≤ s.size) (h0 : cb s d t t = 48) (p : Nat) : cb s d (t + 1) p = cb s d t p := by
  have hlo := D.lo
  have hl : RR s d t (s.size - 1 - t) = 0 := by have := RR_bd h D t (s.size - 1 - t); unfold cb at h0; omega
  unfold cb
  rw [RR_succ, KOf_cyc, numS_len, show s.size + 1 - d.size - 1 - t + d.size - 1 = s.size - 1 - t by omega, hl, Int.zero_mul, Int.zero_mul, Int.sub_zero]
  have := RR_bd h D t (s.size - 1 - p)
  rw [Int.emod_eq_of_lt this.1 this.2]
/-- A step at a byte that is 1, far away: nothing. -/
theorem cb_far {s d : ByteArray} (h : bitsB s = true) (D : ByOk d) {t : Nat} (ht : t + d.size ≤ s.size) {p : Nat} (hp : p < s.size) (hf : p < t ∨ t + d.size ≤ p) : cb s d (t + 1) p = cb s d t p := by
  have hlo := D.lo
  have hz : sh (numS d) (s.size + 1 - d.size - 1 - t) (s.size - 1 - p) = 0 := by
    rcases hf with hf | hf
    · exact sh_ge _ (by rw [numS_len]; omega)
    · exact sh_lt _ (by omega)
  unfold cb
  rw [RR_succ, KOf_cyc, hz, Int.mul_zero, Int.sub_zero]
  have := RR_bd h D t (s.size - 1 - p)
  rw [Int.emod_eq_of_lt this.1 this.2]
theorem xor_cases {a c : Nat} (ha : a = 48 ∨ a = 49) (hc : c = 48 ∨ c = 49) : a ^^^ (c ^^^ 48) = 48 + (((a : Int) - 48 - ((c : Int) - 48)) % 2).toNat := by
  rcases ha with rfl | rfl <;> rcases hc with rfl | rfl <;> decide
/-- A step at a byte that is 1. -/
theorem cb_step {s d : ByteArray} (h : bitsB s = true) (D : ByOk d) {t : Nat} (ht : t + d.size ≤ s.size) (h1 : cb s d t t = 49) {q : Nat} (hq : q < d.size) : cb s d (t + 1) (t + q) = cb s d t (t + q) ^^^ (byteS d q ^^^ 48) := by
  have hlo := D.lo
  have hl : RR s d t (s.size - 1 - t) = 1 := by have := RR_bd h D t (s.size - 1 - t); unfold cb at h1; omega
  rw [xor_cases (cb_bit h D t (t + q)) (byteS_bit D.bits hq)]
  have hb := RR_bd h D t (s.size - 1 - (t + q))
  have hs : sh (numS d) (s.size + 1 - d.size - 1 - t) (s.size - 1 - (t + q)) = ((byteS d q : Nat) : Int) - 48 := by
    rw [show s.size - 1 - (t + q) = (s.size + 1 - d.size - 1 - t) + (d.size - 1 - q) by omega, sh_add, numS_co, if_pos (by omega), show d.size - 1 - (d.size - 1 - q) = q by omega]
  have hc : ((cb s d t (t + q) : Nat) : Int) - 48 = RR s d t (s.size - 1 - (t + q)) := by unfold cb; omega
  rw [hc]
  show 48 + (RR s d (t + 1) (s.size - 1 - (t + q))).toNat = _
  rw [RR_succ, KOf_cyc, numS_len, show s.size + 1 - d.size - 1 - t + d.size - 1 = s.size - 1 - t by omega, hl, hs, Int.one_mul, Int.one_mul]
/-- The remainder, as a text. -/
def cycR (s d : ByteArray) : ByteArray := bytesOf (d.size - 1) fun q => cb s d (s.size + 1 - d.size) (s.size + 1 - d.size + q)
/-- The list without its zeros at the end leaves the same. -/
theorem rdn_trim {s d : ByteArray} (h : bitsB s = true) (D : ByOk d) (j : Nat) :
    rdn 2 1 (numS d) (co (trim (numS s))) (KOf (trim (numS s)) (numS d)) (KOf (trim (numS s)) (numS d)) j = RR s d (s.size + 1 - d.size) j := by
  have DD := cyc_DivOk h D
  have hco : co (trim (numS s)) = co (numS s) := funext fun k => co_trim _ k
  have hle : tlen (numS s) ≤ s.size := by have := tlen_le (numS s); rwa [numS_len] at this
  have hzero : ∀ j, tlen (numS s) ≤ j → co (numS s) j = 0 := fun j hj => by
    rw [← co_trim]
    exact co_out (by rw [length_trim]; exact hj)
  obtain ⟨K, hK⟩ : ∃ K, KOf (trim (numS s)) (numS d) = K := ⟨_, rfl⟩
  have hKv : K = tlen (numS s) + 1 - d.size := by rw [← hK]; unfold KOf; rw [length_trim, numS_len]
  have hlo := D.lo
  rw [hK, hco]
  have hsk : ∀ m, m + K ≤ s.size + 1 - d.size → tlen (numS s) + m ≤ s.size → ∀ j, RR s d m j = co (numS s) j := by
    intro m h1 h2 j
    have := rdn_skips DD (t := 0) (L := tlen (numS s)) (fun j hj => hzero j hj) m (by rw [KOf_cyc]; omega) (by rw [KOf_cyc, numS_len]; omega) j
    rw [Nat.zero_add] at this
    exact this
  have gen : ∀ t, t ≤ K → ∀ j, rdn 2 1 (numS d) (co (numS s)) K t j = RR s d (s.size + 1 - d.size - K + t) j := by
    intro t
    induction t with
    | zero =>
      intro _ j
      rw [Nat.add_zero, hsk _ (by omega) (by omega)]
      rfl
    | succ t ih =>
      intro ht j
      show (rdn 2 1 (numS d) (co (numS s)) K t j - rdn 2 1 (numS d) (co (numS s)) K t (K - 1 - t + (numS d).length - 1) * 1 * sh (numS d) (K - 1 - t) j) % 2 = RR s d (s.size + 1 - d.size - K + t + 1) j
      rw [RR_succ, KOf_cyc, ih (by omega), ih (by omega), show s.size + 1 - d.size - 1 - (s.size + 1 - d.size - K + t) = K - 1 - t by omega]
  rw [gen K (Nat.le_refl _), show s.size + 1 - d.size - K + K = s.size + 1 - d.size by omega]
end Go.Proofs.YtmgpohomgblkkaaDoor
