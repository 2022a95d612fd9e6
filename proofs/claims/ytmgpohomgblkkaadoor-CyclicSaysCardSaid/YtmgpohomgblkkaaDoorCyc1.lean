/- cyclic.isBits, cyclic.Check; the reference's Binary, ByErr. -/
import Derived.Test.YtmgpohomgblkkaaDoorCycM
import Derived.Test.YtmgpohomgblkkaaDoorTrimS
import Derived.Test.YtmgpohomgblkkaaDoorRowK
namespace Go.Proofs.YtmgpohomgblkkaaDoor
open Go.RowKit

def byE (d : ByteArray) : Nat := if d.size < 2 ∨ 17 < d.size then 1 else if bitsB d = true ∧ byteS d 0 = 49 ∧ byteS d (d.size - 1) = 49 then 0 else 3
def ErrC (E : Nat) (w : World) (e : Ending) (w' : World) : Prop := e = .returned (.int .i64 (E : Nat)) ∧ Below w.heap.size w w'
theorem byOk_of {d : ByteArray} (h : byE d = 0) : ByOk d := by
  unfold byE at h
  split at h
  · omega
  · split at h
    · exact ⟨by omega, by omega, by rename_i h2; exact h2.1, by rename_i h2; exact h2.2.1⟩
    · omega
theorem cyc_isBits (s : ByteArray) (w : World) (hs : s.size ≤ 9223372036854775807) :
    Calls Tryd.prog 12 #[.string s] w (BoolB (bitsB s) w) := by
  have CT := Lib.hid (str_Trim s w hs)
  have hb := trim_bits s
  obtain ⟨T, hT⟩ : ∃ T, (⟨(Lib.trimS s.data.toList [48, 49]).toArray⟩ : ByteArray) = T := ⟨_, rfl⟩
  rw [hT] at CT hb
  obtain ⟨b, hbb⟩ : ∃ b, bitsB s = b := ⟨_, rfl⟩
  rw [hbb] at hb ⊢
  replace hb : T.toList.isEmpty = b := by
    rw [← hb, show (ByteArray.mk #[]).toList = [] from by rw [ByteArray.toList_eq]]
    cases T.toList <;> rfl
  clear hT hbb
  go_enter Tryd.func12, Tryd.ntmps12
  go_wp2_with fail
  (with_reducible refine CT.out.mono ?_)
  rintro e w2 ⟨rfl, hb2⟩
  have HB2 := Lib.hid hb2
  clear hb2 CT
  go_wp2_with fail
  go_ret
  exact ⟨rfl, HB2.out⟩
theorem cyc_Check (d : ByteArray) (w : World) (hs : d.size ≤ 9223372036854775807) :
    Calls Tryd.prog 7 #[.string d] w (ErrC (byE d) w) := by
  by_cases g1 : d.size < 2
  · have HE : Hid (byE d = 1) := Lib.hid (by unfold byE; rw [if_pos (.inl g1)])
    have d1 : decide ((d.size : Int) < 2) = true := by simp; omega
    clear g1
    go_enter Tryd.func7, Tryd.ntmps7
    go_wp2_with fail
    go_ret
    exact ⟨by rw [HE.out]; rfl, Below.refl _ _⟩
  have d1 : decide ((d.size : Int) < 2) = false := by simp; omega
  by_cases g2 : 17 < d.size
  · have HE : Hid (byE d = 1) := Lib.hid (by unfold byE; rw [if_pos (.inr g2)])
    have d2 : decide ((17 : Int) < (d.size : Int)) = true := by simp; omega
    clear g1 g2
    go_enter Tryd.func7, Tryd.ntmps7
    go_wp2_with fail
    go_ret
    exact ⟨by rw [HE.out]; rfl, Below.refl _ _⟩
  have d2 : decide ((17 : Int) < (d.size : Int)) = false := by simp; omega
  have CB := Lib.hid (cyc_isBits d w hs)
  unfold BoolB at CB
  obtain ⟨n, hn⟩ : ∃ n, d.size = n := ⟨_, rfl⟩
  have hE0 : byE d = if bitsB d = true ∧ byteS d 0 = 49 ∧ byteS d (n - 1) = 49 then 0 else 3 := by unfold byE; rw [if_neg (by omega), hn]
  have hn2 : 2 ≤ n := by omega
  have hn17 : n ≤ 17 := by omega
  have h0 : 0 < d.size := by omega
  have e1 : (d.size : Int) - 1 = ((n - 1 : Nat) : Int) := by omega
  have w1 : IntKind.i64.wrap ((n - 1 : Nat) : Int) = ((n - 1 : Nat) : Int) := IntWalk.i64_in _ (by omega)
  have h1 : n - 1 < d.size := by omega
  obtain ⟨m, hm⟩ : ∃ m, n - 1 = m := ⟨_, rfl⟩
  rw [hm] at e1 w1 h1 hE0
  have b0 := byteS_get d 0 h0
  have b1 := byteS_get d m h1
  obtain ⟨x, hx⟩ : ∃ x, byteS d 0 = x := ⟨_, rfl⟩
  obtain ⟨y, hy⟩ : ∃ y, byteS d m = y := ⟨_, rfl⟩
  rw [hx] at b0 hE0
  rw [hy] at b1 hE0
  cases hb : bitsB d with
  | false =>
    have HE : Hid (byE d = 3) := Lib.hid (by rw [hE0, if_neg (by rw [hb]; simp)])
    rw [hb] at CB
    clear hE0 hb hx hy hn hm
    go_enter Tryd.func7, Tryd.ntmps7
    go_wp2_with fail
    (with_reducible refine CB.out.mono ?_)
    rintro e w2 ⟨rfl, hb2⟩
    have HB2 := Lib.hid hb2
    clear hb2 CB
    go_wp2_with fail
    go_ret
    exact ⟨by rw [HE.out]; rfl, HB2.out⟩
  | true =>
    rw [hb] at CB
    by_cases g3 : x = 49
    · have t3 : ((x : Int) == 49) = true := by simp; omega
      have t3n : ((x : Int) != 49) = false := by simp; omega
      by_cases g4 : y = 49
      · have t4 : ((y : Int) == 49) = true := by simp; omega
        have t4n : ((y : Int) != 49) = false := by simp; omega
        have HE : Hid (byE d = 0) := Lib.hid (by rw [hE0, if_pos ⟨hb, g3, g4⟩])
        clear hE0 hb hx hy hn hm g3 g4
        go_enter Tryd.func7, Tryd.ntmps7
        go_wp2_with fail
        (with_reducible refine CB.out.mono ?_)
        rintro e w2 ⟨rfl, hb2⟩
        have HB2 := Lib.hid hb2
        clear hb2 CB
        go_wp2_with fail
        go_ret
        exact ⟨by rw [HE.out]; rfl, HB2.out⟩
      · have t4 : ((y : Int) == 49) = false := by simp; omega
        have t4n : ((y : Int) != 49) = true := by simp; omega
        have HE : Hid (byE d = 3) := Lib.hid (by rw [hE0, if_neg (fun h => g4 h.2.2)])
        clear hE0 hb hx hy hn hm g3 g4
        go_enter Tryd.func7, Tryd.ntmps7
        go_wp2_with fail
        (with_reducible refine CB.out.mono ?_)
        rintro e w2 ⟨rfl, hb2⟩
        have HB2 := Lib.hid hb2
        clear hb2 CB
        go_wp2_with fail
        go_ret
        exact ⟨by rw [HE.out]; rfl, HB2.out⟩
    · have t3 : ((x : Int) == 49) = false := by simp; omega
      have t3n : ((x : Int) != 49) = true := by simp; omega
      have HE : Hid (byE d = 3) := Lib.hid (by rw [hE0, if_neg (fun h => g3 h.2.1)])
      clear hE0 hb hx hy hn hm g3
      go_enter Tryd.func7, Tryd.ntmps7
      go_wp2_with fail
      (with_reducible refine CB.out.mono ?_)
      rintro e w2 ⟨rfl, hb2⟩
      have HB2 := Lib.hid hb2
      clear hb2 CB
      go_wp2_with fail
      go_ret
      exact ⟨by rw [HE.out]; rfl, HB2.out⟩
end Go.Proofs.YtmgpohomgblkkaaDoor
