/- cyclic.Put, cyclic.Get. -/
import Derived.Test.YtmgpohomgblkkaaDoorCyc5
import Derived.Test.YtmgpohomgblkkaaDoorRepC
import Derived.Test.YtmgpohomgblkkaaDoorContS
namespace Go.Proofs.YtmgpohomgblkkaaDoor
open Go.RowKit

def zS (c : Nat) : ByteArray := bytesOf c fun _ => 48
theorem repeat_z (c : Nat) : (⟨(Lib.repeatL (ByteArray.mk #[48]).data.toList c).toArray⟩ : ByteArray) = zS c := by
  unfold zS bytesOf
  congr 1
  congr 1
  show Lib.repeatL [48] c = (List.range c).map fun _ => UInt8.ofNat 48
  have h : Lib.repeatL [48] c = List.replicate c 48 := by
    induction c with
    | zero => rfl
    | succ n ih => first | (show [48] ++ Lib.repeatL [48] n = _; rw [ih]; rfl) | (simp [Lib.repeatL, ih, List.replicate_succ]) | (unfold Lib.repeatL; simp)
  rw [h]
  apply List.ext_getElem
  · simp
  · intro i h1 h2; simp
theorem zS_size (c : Nat) : (zS c).size = c := bytesOf_size _ _
theorem bits_append {a b : ByteArray} (ha : bitsB a = true) (hb : bitsB b = true) : bitsB (a ++ b) = true := by
  unfold bitsB at *
  rw [ByteArray.data_append]
  simp only [Array.toList_append, List.all_append, ha, hb, Bool.and_self]
theorem bits_z (c : Nat) : bitsB (zS c) = true := by
  rw [bitsB_iff]
  intro k hk
  left
  unfold zS at hk ⊢
  rw [bytesOf_size] at hk
  exact bytesOf_get hk (by omega)
def padS (s d : ByteArray) : ByteArray := s ++ zS (d.size - 1)
theorem padS_size (s d : ByteArray) : (padS s d).size = s.size + (d.size - 1) := by unfold padS; rw [ByteArray.size_append, zS_size]
def putE (s d : ByteArray) : Nat := if byE d = 0 then (if 200 < s.size then 2 else if bitsB s = true then 0 else 3) else byE d
def putX (s d : ByteArray) : ByteArray := if putE s d = 0 then s ++ cycR (padS s d) d else ByteArray.empty
def TwoP (X : ByteArray) (E : Nat) (w : World) (e : Ending) (w' : World) : Prop := e = .returned (.tuple #[.string X, .int .i64 (E : Nat)]) ∧ Below w.heap.size w w'
def hasOne (r : ByteArray) : Bool := decide (0 ≤ Lib.indexByte r.data.toList 49)
def getE (s d : ByteArray) : Nat := if byE d = 0 then (if 216 < s.size then 2 else if bitsB s = true then (if s.size + 1 < d.size then 7 else if hasOne (cycR s d) = true then 8 else 0) else 3) else byE d
def getX (s d : ByteArray) : ByteArray := if getE s d = 0 then s.extract 0 (s.size + 1 - d.size) else ByteArray.empty
set_option maxHeartbeats 2000000 in
theorem cyc_Put (s d : ByteArray) (w : World) (hs : s.size ≤ 9223372036854775807) (hd : d.size ≤ 9223372036854775807) :
    Calls Tryd.prog 4 #[.string s, .string d] w (TwoP (putX s d) (putE s d) w) := by
  have CK := Lib.hid (cyc_Check d w hd)
  unfold ErrC at CK
  obtain ⟨E, hE⟩ : ∃ E, byE d = E := ⟨_, rfl⟩
  rw [hE] at CK
  by_cases hE0 : E = 0
  · have t0 : ((E : Int) == 0) = true := by simp [hE0]
    have t0n : ((E : Int) != 0) = false := by simp [hE0]
    have D := byOk_of (hE.trans hE0)
    have d2 := D.lo
    have d17 := D.hi
    by_cases h200 : 200 < s.size
    · have t1 : decide ((200 : Int) < (s.size : Int)) = true := by simp; omega
      have HE : Hid (putE s d = 2) := Lib.hid (by unfold putE; rw [if_pos (hE.trans hE0), if_pos h200])
      have HX : Hid (putX s d = ByteArray.empty) := Lib.hid (by unfold putX; rw [HE.out]; rfl)
      rw [HE.out, HX.out]
      clear hE hE0 D h200
      go_enter Tryd.func4, Tryd.ntmps4
      go_wp2_with fail
      (with_reducible refine CK.out.mono ?_)
      rintro e w2 ⟨rfl, hb2⟩
      have HB2 := Lib.hid hb2
      clear hb2 CK
      go_wp2_with fail
      go_ret2
      exact ⟨rfl, HB2.out⟩
    have t1 : decide ((200 : Int) < (s.size : Int)) = false := by simp; omega
    have CB := Lib.hid (fun W => cyc_isBits s W hs)
    unfold BoolB at CB
    cases hb : bitsB s with
    | false =>
      have HE : Hid (putE s d = 3) := Lib.hid (by unfold putE; rw [if_pos (hE.trans hE0), if_neg h200, if_neg (by rw [hb]; simp)])
      have HX : Hid (putX s d = ByteArray.empty) := Lib.hid (by unfold putX; rw [HE.out]; rfl)
      rw [HE.out, HX.out]
      rw [hb] at CB
      clear hE hE0 D h200 hb
      go_enter Tryd.func4, Tryd.ntmps4
      go_wp2_with fail
      (with_reducible refine CK.out.mono ?_)
      rintro e w2 ⟨rfl, hb2⟩
      have HB2 := Lib.hid hb2
      clear hb2 CK
      go_wp2_with fail
      (with_reducible refine (CB.out _).mono ?_)
      rintro e w3 ⟨rfl, hb3⟩
      have HB3 := Lib.hid (HB2.out.trans (hb3.mono HB2.out.size))
      clear hb3 CB
      go_wp2_with fail
      go_ret2
      exact ⟨rfl, HB3.out⟩
    | true =>
      have HE : Hid (putE s d = 0) := Lib.hid (by unfold putE; rw [if_pos (hE.trans hE0), if_neg h200, if_pos hb])
      have HX : Hid (putX s d = s ++ cycR (padS s d) d) := Lib.hid (by unfold putX; rw [HE.out]; rfl)
      rw [HE.out, HX.out]
      rw [hb] at CB
      have psz := padS_size s d
      obtain ⟨c, hc⟩ : ∃ c, d.size - 1 = c := ⟨_, rfl⟩
      have e1 : (d.size : Int) - 1 = (c : Int) := by omega
      have w1 : IntKind.i64.wrap (c : Int) = (c : Int) := IntWalk.i64_in _ (by omega)
      have CZ := Lib.hid (fun W => str_Repeat ⟨#[48]⟩ c W (by omega) (by show 1 * c ≤ _; omega))
      rw [repeat_z] at CZ
      have hz := zS_size c
      have CM := Lib.hid (fun W => cyc_remainder (padS s d) d W (by omega) (bits_append hb (bits_z _)) D (by omega))
      unfold StrB at CM
      have hpad : padS s d = s ++ zS c := by unfold padS; rw [hc]
      rw [hpad] at CM ⊢
      obtain ⟨Z, hZ⟩ : ∃ Z, zS c = Z := ⟨_, rfl⟩
      rw [hZ] at CZ CM hz ⊢
      have hrs : (cycR (s ++ Z) d).size = c := by unfold cycR; rw [bytesOf_size, hc]
      obtain ⟨R, hR⟩ : ∃ R, cycR (s ++ Z) d = R := ⟨_, rfl⟩
      rw [hR] at CM hrs ⊢
      have hsum : ¬ (9223372036854775807 < s.size + c) := by omega
      have hsum2 : ¬ (9223372036854775807 < s.size + Z.size) := by omega
      have hsum3 : ¬ (9223372036854775807 < s.size + R.size) := by omega
      clear hE hE0 D h200 hb hR hZ hpad hc psz
      go_enter Tryd.func4, Tryd.ntmps4
      go_wp2_with fail
      (with_reducible refine CK.out.mono ?_)
      rintro e w2 ⟨rfl, hb2⟩
      have HB2 := Lib.hid hb2
      clear hb2 CK
      go_wp2_with fail
      (with_reducible refine (CB.out _).mono ?_)
      rintro e w3 ⟨rfl, hb3⟩
      have HB3 := Lib.hid (HB2.out.trans (hb3.mono HB2.out.size))
      clear hb3 CB
      go_wp2_with fail
      (with_reducible refine (CZ.out _).mono ?_)
      rintro e w4 ⟨rfl, hb4⟩
      have HB4 := Lib.hid (HB3.out.trans (hb4.mono HB3.out.size))
      clear hb4 CZ
      go_wp2_with fail
      (with_reducible refine (CM.out _).mono ?_)
      rintro e w5 ⟨rfl, hb5⟩
      have HB5 := Lib.hid (HB4.out.trans (hb5.mono HB4.out.size))
      clear hb5 CM
      go_wp2_with fail
      go_ret2
      exact ⟨rfl, HB5.out⟩
  · have t0 : ((E : Int) == 0) = false := by simp [hE0]
    have t0n : ((E : Int) != 0) = true := by simp [hE0]
    have HE : Hid (putE s d = E) := Lib.hid (by unfold putE; rw [if_neg (by rw [hE]; exact hE0), hE])
    have HX : Hid (putX s d = ByteArray.empty) := Lib.hid (by unfold putX; rw [HE.out, if_neg hE0])
    rw [HE.out, HX.out]
    clear hE hE0
    go_enter Tryd.func4, Tryd.ntmps4
    go_wp2_with fail
    (with_reducible refine CK.out.mono ?_)
    rintro e w2 ⟨rfl, hb2⟩
    have HB2 := Lib.hid hb2
    clear hb2 CK
    go_wp2_with fail
    go_ret2
    exact ⟨rfl, HB2.out⟩
end Go.Proofs.YtmgpohomgblkkaaDoor
