/- cyclic.Get. -/
import Derived.Test.YtmgpohomgblkkaaDoorCyc6
namespace Go.Proofs.YtmgpohomgblkkaaDoor
open Go.RowKit

set_option maxHeartbeats 4000000 in
theorem cyc_Get (s d : ByteArray) (w : World) (hs : s.size ≤ 9223372036854775807) (hd : d.size ≤ 9223372036854775807) :
    Calls Tryd.prog 5 #[.string s, .string d] w (TwoP (getX s d) (getE s d) w) := by
  have CK := Lib.hid (cyc_Check d w hd)
  unfold ErrC at CK
  obtain ⟨E, hE⟩ : ∃ E, byE d = E := ⟨_, rfl⟩
  rw [hE] at CK
  by_cases hE0 : E = 0
  · have t0 : ((E : Int) == 0) = true := by simp [hE0]
    have t0n : ((E : Int) != 0) = false := by simp [hE0]
    have D := byOk_of (hE.trans hE0)
    have d2 := D.lo
    have d17 := D.hi
    by_cases h200 : 216 < s.size
    · have t1 : decide ((216 : Int) < (s.size : Int)) = true := by simp; omega
      have HE : Hid (getE s d = 2) := Lib.hid (by unfold getE; rw [if_pos (hE.trans hE0), if_pos h200])
      have HX : Hid (getX s d = ByteArray.empty) := Lib.hid (by unfold getX; rw [HE.out]; rfl)
      rw [HE.out, HX.out]
      clear hE hE0 D h200
      go_enter Tryd.func5, Tryd.ntmps5
      go_wp2_with fail
      (with_reducible refine CK.out.mono ?_)
      rintro e w2 ⟨rfl, hb2⟩
      have HB2 := Lib.hid hb2
      clear hb2 CK
      go_wp2_with fail
      go_ret2
      exact ⟨rfl, HB2.out⟩
    have t1 : decide ((216 : Int) < (s.size : Int)) = false := by simp; omega
    have CB := Lib.hid (fun W => cyc_isBits s W hs)
    unfold BoolB at CB
    cases hb : bitsB s with
    | false =>
      have HE : Hid (getE s d = 3) := Lib.hid (by unfold getE; rw [if_pos (hE.trans hE0), if_neg h200, if_neg (by rw [hb]; simp)])
      have HX : Hid (getX s d = ByteArray.empty) := Lib.hid (by unfold getX; rw [HE.out]; rfl)
      rw [HE.out, HX.out]
      rw [hb] at CB
      clear hE hE0 D h200 hb
      go_enter Tryd.func5, Tryd.ntmps5
      go_wp2_with fail
      (with_reducible refine CK.out.mono ?_)
      rintro e w2 ⟨rfl, hb2⟩
      have HB2 := Lib.hid hb2
      clear hb2 CK
      go_wp2_with fail
      (with_reducible refine (CB.out _).mono ?_)
      rintro e w3 ⟨rfl, hb3⟩
      have HB3 := Lib.hid (HB2.out.trans (hb3.mono HB2.out.size))
      clear hb3 CB
      go_wp2_with fail
      go_ret2
      exact ⟨rfl, HB3.out⟩
    | true =>
      rw [hb] at CB
      obtain ⟨c, hc⟩ : ∃ c, d.size - 1 = c := ⟨_, rfl⟩
      have e1 : (d.size : Int) - 1 = (c : Int) := by omega
      have w1 : IntKind.i64.wrap (c : Int) = (c : Int) := IntWalk.i64_in _ (by omega)
      by_cases hsh : s.size + 1 < d.size
      · have t2 : decide ((s.size : Int) < (c : Int)) = true := by simp; omega
        have t2N : s.size < c := by omega
        have HE : Hid (getE s d = 7) := Lib.hid (by unfold getE; rw [if_pos (hE.trans hE0), if_neg h200, if_pos hb, if_pos hsh])
        have HX : Hid (getX s d = ByteArray.empty) := Lib.hid (by unfold getX; rw [HE.out]; rfl)
        rw [HE.out, HX.out]
        clear hE hE0 D h200 hb hc hsh
        go_enter Tryd.func5, Tryd.ntmps5
        go_wp2_with fail
        (with_reducible refine CK.out.mono ?_)
        rintro e w2 ⟨rfl, hb2⟩
        have HB2 := Lib.hid hb2
        clear hb2 CK
        go_wp2_with fail
        (with_reducible refine (CB.out _).mono ?_)
        rintro e w3 ⟨rfl, hb3⟩
        have HB3 := Lib.hid (HB2.out.trans (hb3.mono HB2.out.size))
        clear hb3 CB
        go_wp2_with fail
        go_ret2
        exact ⟨rfl, HB3.out⟩
      · have t2 : decide ((s.size : Int) < (c : Int)) = false := by simp; omega
        have t2N : ¬ s.size < c := by omega
        have CM := Lib.hid (fun W => cyc_remainder s d W (by omega) hb D (by omega))
        unfold StrB at CM
        have hg : getE s d = if hasOne (cycR s d) = true then 8 else 0 := by unfold getE; rw [if_pos (hE.trans hE0), if_neg h200, if_pos hb, if_neg hsh]
        have hgx : getX s d = if hasOne (cycR s d) = true then ByteArray.empty else s.extract 0 (s.size + 1 - d.size) := by
          unfold getX
          rw [hg]
          by_cases h1 : hasOne (cycR s d) = true
          · rw [if_pos h1, if_pos h1]; rfl
          · rw [if_neg h1, if_neg h1]; rfl
        rw [hg, hgx]
        obtain ⟨R, hR⟩ : ∃ R, cycR s d = R := ⟨_, rfl⟩
        rw [hR] at CM ⊢
        have CC := Lib.hid (fun W => str_Contains R 49 W)
        have hho : decide (0 ≤ Lib.indexByte R.data.toList 49) = hasOne R := rfl
        rw [hho] at CC
        obtain ⟨k, hk⟩ : ∃ k, s.size + 1 - d.size = k := ⟨_, rfl⟩
        have e3 : (s.size : Int) - (d.size : Int) = (k : Int) - 1 := by omega
        have w3 : IntKind.i64.wrap ((k : Int) - 1) = (k : Int) - 1 := IntWalk.i64_in _ (by omega)
        have e4 : (k : Int) - 1 + 1 = (k : Int) := by omega
        have w4 : IntKind.i64.wrap (k : Int) = (k : Int) := IntWalk.i64_in _ (by omega)
        have k0 : (0 : Int) ≤ (k : Int) := by omega
        have k1 : (k : Int) ≤ (s.size : Int) := by omega
        have k2 : k ≤ s.size := by omega
        rw [hk]
        obtain ⟨o, ho⟩ : ∃ o, hasOne R = o := ⟨_, rfl⟩
        rw [ho] at CC ⊢
        clear hE hE0 D h200 hb hc hsh hg hgx hR hk ho hho
        cases o with
        | true =>
          go_enter Tryd.func5, Tryd.ntmps5
          go_wp2_with fail
          (with_reducible refine CK.out.mono ?_)
          rintro e w2 ⟨rfl, hb2⟩
          have HB2 := Lib.hid hb2
          clear hb2 CK
          go_wp2_with fail
          (with_reducible refine (CB.out _).mono ?_)
          rintro e w3' ⟨rfl, hb3⟩
          have HB3 := Lib.hid (HB2.out.trans (hb3.mono HB2.out.size))
          clear hb3 CB
          go_wp2_with fail
          (with_reducible refine (CM.out _).mono ?_)
          rintro e w4' ⟨rfl, hb4⟩
          have HB4 := Lib.hid (HB3.out.trans (hb4.mono HB3.out.size))
          clear hb4 CM
          go_wp2_with fail
          (with_reducible refine (CC.out _).mono ?_)
          rintro e w5' ⟨rfl, rfl⟩
          go_wp2_with fail
          go_ret2
          exact ⟨rfl, HB4.out⟩
        | false =>
          go_enter Tryd.func5, Tryd.ntmps5
          go_wp2_with fail
          (with_reducible refine CK.out.mono ?_)
          rintro e w2 ⟨rfl, hb2⟩
          have HB2 := Lib.hid hb2
          clear hb2 CK
          go_wp2_with fail
          (with_reducible refine (CB.out _).mono ?_)
          rintro e w3' ⟨rfl, hb3⟩
          have HB3 := Lib.hid (HB2.out.trans (hb3.mono HB2.out.size))
          clear hb3 CB
          go_wp2_with fail
          (with_reducible refine (CM.out _).mono ?_)
          rintro e w4' ⟨rfl, hb4⟩
          have HB4 := Lib.hid (HB3.out.trans (hb4.mono HB3.out.size))
          clear hb4 CM
          go_wp2_with fail
          (with_reducible refine (CC.out _).mono ?_)
          rintro e w5' ⟨rfl, rfl⟩
          go_wp2_with fail
          go_ret2
          exact ⟨rfl, HB4.out⟩
  · have t0 : ((E : Int) == 0) = false := by simp [hE0]
    have t0n : ((E : Int) != 0) = true := by simp [hE0]
    have HE : Hid (getE s d = E) := Lib.hid (by unfold getE; rw [if_neg (by rw [hE]; exact hE0), hE])
    have HX : Hid (getX s d = ByteArray.empty) := Lib.hid (by unfold getX; rw [HE.out, if_neg hE0])
    rw [HE.out, HX.out]
    clear hE hE0
    go_enter Tryd.func5, Tryd.ntmps5
    go_wp2_with fail
    (with_reducible refine CK.out.mono ?_)
    rintro e w2 ⟨rfl, hb2⟩
    have HB2 := Lib.hid hb2
    clear hb2 CK
    go_wp2_with fail
    go_ret2
    exact ⟨rfl, HB2.out⟩
end Go.Proofs.YtmgpohomgblkkaaDoor
