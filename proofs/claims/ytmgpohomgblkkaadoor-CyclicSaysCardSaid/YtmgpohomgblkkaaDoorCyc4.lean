/- The reference's ByErr, Numbers. -/
import Derived.Test.YtmgpohomgblkkaaDoorCyc3
namespace Go.Proofs.YtmgpohomgblkkaaDoor
open Go.RowKit

set_option maxHeartbeats 2000000 in
theorem ref_ByErr (d : ByteArray) (w : World) (hs : d.size ≤ 9223372036854775807) :
    Calls Tryd.prog 6 #[.string d] w (ErrC (byE d) w) := by
  by_cases g1 : d.size < 2
  · have HE : Hid (byE d = 1) := Lib.hid (by unfold byE; rw [if_pos (.inl g1)])
    have d1 : decide ((d.size : Int) < 2) = true := by simp; omega
    clear g1
    go_enter Tryd.func6, Tryd.ntmps6
    go_wp2_with fail
    go_ret
    exact ⟨by rw [HE.out]; rfl, Below.refl _ _⟩
  have d1 : decide ((d.size : Int) < 2) = false := by simp; omega
  by_cases g2 : 17 < d.size
  · have HE : Hid (byE d = 1) := Lib.hid (by unfold byE; rw [if_pos (.inr g2)])
    have d2 : decide ((17 : Int) < (d.size : Int)) = true := by simp; omega
    clear g1 g2
    go_enter Tryd.func6, Tryd.ntmps6
    go_wp2_with fail
    go_ret
    exact ⟨by rw [HE.out]; rfl, Below.refl _ _⟩
  have d2 : decide ((17 : Int) < (d.size : Int)) = false := by simp; omega
  have CB := Lib.hid (ref_Binary d w hs)
  unfold BoolB at CB
  obtain ⟨n, hn⟩ : ∃ n, d.size = n := ⟨_, rfl⟩
  have hE0 : byE d = if bitsB d = true ∧ byteS d 0 = 49 ∧ byteS d (n - 1) = 49 then 0 else 3 := by unfold byE; rw [if_neg (by omega), hn]
  have hn2 : 2 ≤ n := by omega
  have hn17 : n ≤ 17 := by omega
  have h0 : 0 < d.size := by omega
  have e1 : (d.size : Int) - 1 = ((n - 1 : Nat) : Int) := by omega
  have w1 : IntKind.i64.wrap ((n - 1 : Nat) : Int) = ((n - 1 : Nat) : Int) := IntWalk.i64_in _ (by omega)
  have h1 : n - 1 < d.size := by omega
  obtain ⟨m, hm⟩ : ∃ m, n - 1 = m := ⟨_, rfl⟩
  rw [hm] at e1 w1 h1 hE0
  have b0 := byteS_get d 0 h0
  have b1 := byteS_get d m h1
  cases hb : bitsB d with
  | false =>
    have HE : Hid (byE d = 3) := Lib.hid (by rw [hE0, if_neg (by rw [hb]; simp)])
    rw [hb] at CB
    clear hE0 hb hn hm
    go_enter Tryd.func6, Tryd.ntmps6
    go_wp2_with fail
    (with_reducible refine CB.out.mono ?_)
    rintro e w2 ⟨rfl, hb2⟩
    have HB2 := Lib.hid hb2
    clear hb2 CB
    go_wp2_with fail
    go_ret
    exact ⟨by rw [HE.out]; rfl, HB2.out⟩
  | true =>
    rw [hb] at CB
    have x48 := byteS_bit hb h0
    have y48 := byteS_bit hb h1
    obtain ⟨x, hx⟩ : ∃ x, byteS d 0 = x := ⟨_, rfl⟩
    obtain ⟨y, hy⟩ : ∃ y, byteS d m = y := ⟨_, rfl⟩
    rw [hx] at b0 hE0 x48
    rw [hy] at b1 hE0 y48
    by_cases g3 : x = 48
    · have t3 : ((x : Int) == 48) = true := by simp; omega
      have HE : Hid (byE d = 3) := Lib.hid (by rw [hE0, if_neg (fun h => by have := h.2.1; omega)])
      clear hE0 hb hx hy hn hm g3 x48 y48
      go_enter Tryd.func6, Tryd.ntmps6
      go_wp2_with fail
      (with_reducible refine CB.out.mono ?_)
      rintro e w2 ⟨rfl, hb2⟩
      have HB2 := Lib.hid hb2
      clear hb2 CB
      go_wp2_with fail
      go_ret
      exact ⟨by rw [HE.out]; rfl, HB2.out⟩
    · have t3 : ((x : Int) == 48) = false := by simp; omega
      by_cases g4 : y = 48
      · have t4 : ((y : Int) == 48) = true := by simp; omega
        have HE : Hid (byE d = 3) := Lib.hid (by rw [hE0, if_neg (fun h => by have := h.2.2; omega)])
        clear hE0 hb hx hy hn hm g3 g4 x48 y48
        go_enter Tryd.func6, Tryd.ntmps6
        go_wp2_with fail
        (with_reducible refine CB.out.mono ?_)
        rintro e w2 ⟨rfl, hb2⟩
        have HB2 := Lib.hid hb2
        clear hb2 CB
        go_wp2_with fail
        go_ret
        exact ⟨by rw [HE.out]; rfl, HB2.out⟩
      · have t4 : ((y : Int) == 48) = false := by simp; omega
        have HE : Hid (byE d = 0) := Lib.hid (by rw [hE0, if_pos ⟨hb, by omega, by omega⟩])
        clear hE0 hb hx hy hn hm g3 g4 x48 y48
        go_enter Tryd.func6, Tryd.ntmps6
        go_wp2_with fail
        (with_reducible refine CB.out.mono ?_)
        rintro e w2 ⟨rfl, hb2⟩
        have HB2 := Lib.hid hb2
        clear hb2 CB
        go_wp2_with fail
        go_ret
        exact ⟨by rw [HE.out]; rfl, HB2.out⟩
/-- The first i numbers. -/
def numF (s : ByteArray) (k : Nat) : Value := .int .i64 (((byteS s (s.size - 1 - k) - 48 : Nat)) : Int)
theorem numF_all {s : ByteArray} (hb : bitsB s = true) : rowF s.size (numF s) = (numS s).map (Value.int .i64) := by
  unfold rowF numS
  rw [List.map_map]
  apply List.map_congr_left
  intro k hk
  rw [List.mem_range] at hk
  show numF s k = Value.int .i64 (((byteS s (s.size - 1 - k) : Nat) : Int) - 48)
  unfold numF
  rcases byteS_bit hb (show s.size - 1 - k < s.size by omega) with h | h <;> rw [h] <;> rfl
set_option maxRecDepth 20000 in
set_option maxHeartbeats 2000000 in
theorem ref_Numbers (s : ByteArray) (w : World) (hs : s.size ≤ 1000) (hb : bitsB s = true) :
    Calls Tryd.prog 19 #[.string s] w (ListPost w.heap.size (numS s) w) := by
  obtain ⟨gb, hgb⟩ : ∃ gb, w.heap.size = gb := ⟨_, rfl⟩
  have HGB := Lib.hid hgb
  rw [hgb]
  have HBT := Lib.hid hb
  have w0 : IntKind.i64.wrap ((s.size : Int) - 1) = (s.size : Int) - 1 := IntWalk.i64_in _ (by omega)
  clear hgb hb
  go_enter Tryd.func19, Tryd.ntmps19
  go_wp2_with fail
  go_loopw [3, 4] (fun vg vk wr => ∃ i : Nat, vk = .int .i64 ((s.size : Int) - 1 - (i : Int)) ∧ i ≤ s.size ∧ Hid (wr.ownsRow gb 3 1 vg i (rowF i (numF s))) ∧ Hid (Below gb w wr)) (fun _ vk _ => (intOf vk + 1).toNat)
  case atStart => exact ⟨0, by simp, by omega, Lib.hid (World.ownsRow_nil _ _ _ _), Lib.hid (Below.refl _ _)⟩
  case round =>
    obtain ⟨i, rfl, hi, HO, HB⟩ := hrel
    obtain ⟨wo, rfl⟩ : ∃ wo, wo = wr := ⟨_, rfl⟩
    by_cases hin : i < s.size
    · obtain ⟨k, hk⟩ : ∃ k, s.size - 1 - i = k := ⟨_, rfl⟩
      have ek : (s.size : Int) - 1 - (i : Int) = (k : Int) := by omega
      rw [ek]
      have hks : k < s.size := by omega
      have tk : decide ((0 : Int) ≤ (k : Int)) = true := by simp
      have hy := byteS_get s k hks
      have hbit := byteS_bit HBT.out hks
      have hnf : numF s i = .int .i64 (((byteS s k - 48 : Nat)) : Int) := by unfold numF; rw [hk]
      obtain ⟨c, hc⟩ : ∃ c, byteS s k = c := ⟨_, rfl⟩
      rw [hc] at hy hbit hnf
      obtain ⟨v, hv⟩ : ∃ v, c - 48 = v := ⟨_, rfl⟩
      have ev : (c : Int) - 48 = (v : Int) := by omega
      have wv : IntKind.u8.wrap (v : Int) = (v : Int) := by rcases hbit with h | h <;> (rw [h] at hv; rw [← hv]; rfl)
      have wv2 : IntKind.i64.wrap (v : Int) = (v : Int) := IntWalk.i64_in _ (by omega)
      rw [hv] at hnf
      have HNF := Lib.hid hnf
      have wk : IntKind.i64.wrap ((k : Int) - 1) = (k : Int) - 1 := IntWalk.i64_in _ (by omega)
      have k0 : (0 : Int) ≤ (k : Int) := by omega
      have k1 : (k : Int) < (s.size : Int) := by omega
      clear hc hv hbit hnf
      go_wp2_with (first
        | (at_builtin; go_must (refine app_one2 rfl (.tmp 12) (.tmp 18) 36 rfl gb 3 _ 1 8 Tryd.underlying36 intRow _ i _ (by rfl) HO.out [.int .i64 (v : Int)] (by rfl) rfl (by intro u hu; simp at hu; subst hu; rfl) (by unfold maxLen; omega) (by omega) (by rw [← HGB.out]; first | exact (HGB.out ▸ HB.out).size | (have := HB.out.size; rw [HGB.out] at this ⊢; exact this)) ?_); intro v5 w5 hown5 hgr5 hb5 hat5; have HO5 : Hid (w5.ownsRow gb 3 1 v5 (i + 1) (rowF (i + 1) (numF s))) := Lib.hid (by rw [rowF_succ, HNF.out]; exact hown5); have HB5 := Lib.hid (HB.out.trans hb5); clear hown5 hgr5 hb5 hat5)
        | fail)
      go_roundw
      case rel => exact ⟨i + 1, by first | go_num | (congr 1; omega), by omega, HO5, HB5⟩
      case measure => simp [intOf] <;> omega
    · obtain rfl : i = s.size := by omega
      have ek : (s.size : Int) - 1 - (s.size : Int) = -1 := by omega
      rw [ek]
      go_wp2_with fail
      go_ret
      exact ⟨_, rfl, by rw [numS_len, ← numF_all HBT.out]; exact HO.out, HB.out⟩
end Go.Proofs.YtmgpohomgblkkaaDoor
