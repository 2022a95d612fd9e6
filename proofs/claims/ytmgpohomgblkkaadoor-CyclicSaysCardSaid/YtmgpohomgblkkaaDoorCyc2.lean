/- cyclic.remainder. -/
import Derived.Test.YtmgpohomgblkkaaDoorCyc1
namespace Go.Proofs.YtmgpohomgblkkaaDoor
open Go.RowKit

theorem xor_u8 (a b : Nat) (ha : a < 256) (hb : b < 256) : bits .xor .u8 (a : Int) (b : Int) = ((a ^^^ b : Nat) : Int) := by
  first | exact u8_xor_nat a b ha hb | (revert ha hb; intro ha hb; exact bits_xor_u8 a b ha hb)
def StrB (S : ByteArray) (w : World) (e : Ending) (w' : World) : Prop := e = .returned (.string S) ∧ Below w.heap.size w w'
theorem rowC_reads_at {w : World} {g n : Nat} {f : Nat → Value} (h : RowC w g n f) (o m : Nat) (hm : o + m ≤ n) : Reads w (some ⟨g, o, none⟩) (rowF m fun j => f (o + j)) := by
  intro j u hu
  have hj : j < m := by have := (List.getElem?_eq_some_iff.1 hu).1; rwa [rowF_length] at this
  rw [rowF_get _ hj] at hu
  cases hu
  exact ⟨g, o, rfl, (h (o + j) (by omega)).1⟩
set_option maxRecDepth 100000 in
set_option maxHeartbeats 4000000 in
theorem cyc_remainder (s d : ByteArray) (w : World) (hs : s.size ≤ 1000) (hb : bitsB s = true) (D : ByOk d) (hl : d.size ≤ s.size + 1) :
    Calls Tryd.prog 13 #[.string s, .string d] w (StrB (cycR s d) w) := by
  have BS := run_bytes_of_string (P := Tryd.prog) w 9 27 5 s Tryd.underlying9 Tryd.underlying27 Tryd.underlying5
  obtain ⟨gc, hgc⟩ : ∃ gc, grownCap w s.size 0 5 = gc := ⟨_, rfl⟩
  have hcap : s.size ≤ gc := by rw [← hgc]; first | exact le_grownCap _ _ _ | exact grownCap_ge _ _ _ _ | (unfold grownCap; omega) | (unfold grownCap; simp)
  rw [hgc] at BS
  obtain ⟨gb, hgb⟩ : ∃ gb, w.heap.size = gb := ⟨_, rfl⟩
  have RC : RowC (w.drew.alloc (.cells (bytesRow s gc) 5 ((bytesRow s gc).size, (bytesRow s gc).size + 1))) gb s.size (fun j => .int .u8 (byteS s j : Nat)) := by rw [← hgb]; exact rowC_of_string w.drew s gc
  have B7 : Below w.heap.size w (w.drew.alloc (.cells (bytesRow s gc) 5 ((bytesRow s gc).size, (bytesRow s gc).size + 1))) := (below_dr _ _ 1).alloc (Nat.le_refl _) _
  obtain ⟨W7, hW7⟩ : ∃ W7, w.drew.alloc (.cells (bytesRow s gc) 5 ((bytesRow s gc).size, (bytesRow s gc).size + 1)) = W7 := ⟨_, rfl⟩
  rw [hW7] at BS RC B7
  have HWB := Lib.hid (Nat.le_of_eq hgb)
  rw [hgb] at BS
  have HRC : Hid (RowC W7 gb s.size (fun j => .int .u8 (cb s d 0 j : Nat))) := Lib.hid (RC.congr fun j hj => by rw [cb_zero hb hj])
  have HB7 := Lib.hid B7
  have HH := Lib.hid hb
  have HD := Lib.hid D
  have d2 := D.lo
  have d17 := D.hi
  clear RC B7 hW7 hgc hgb hb D
  go_enter Tryd.func13, Tryd.ntmps13
  go_wp2_with fail
  clear BS
  go_loopw [6] (fun vi wr => ∃ i : Nat, vi = .int .i64 i ∧ i ≤ s.size + 1 - d.size ∧ Hid (RowC wr gb s.size (fun j => .int .u8 (cb s d i j : Nat))) ∧ Hid (Below w.heap.size w wr)) (fun vi _ => s.size + 1 - d.size - (intOf vi).toNat)
  case atStart => exact ⟨0, rfl, by omega, HRC, HB7⟩
  case round =>
    clear HRC HB7
    obtain ⟨i, rfl, hi, HRC, HB⟩ := hrel
    obtain ⟨wo, rfl⟩ : ∃ wo, wo = wr := ⟨_, rfl⟩
    obtain ⟨x, hx⟩ : ∃ x, i + d.size = x := ⟨_, rfl⟩
    have ex : (i : Int) + (d.size : Int) = (x : Int) := by omega
    have wx : IntKind.i64.wrap (x : Int) = (x : Int) := IntWalk.i64_in _ (by omega)
    by_cases hik : i < s.size + 1 - d.size
    · have dx : decide ((x : Int) ≤ (s.size : Int)) = true := by simp; omega
      have hx2 : Hid (i + d.size = x) := Lib.hid hx
      have q1 : wo.cell? ⟨gb, i, none⟩ = some (.int .u8 (cb s d i i : Nat)) := (HRC.out i (by omega)).1
      have hcb := cb_bit HH.out HD.out i i
      obtain ⟨c, hc⟩ : ∃ c, cb s d i i = c := ⟨_, rfl⟩
      rw [hc] at q1 hcb
      have i0 : (0 : Int) ≤ (i : Int) := by omega
      have i1 : (i : Int) < (s.size : Int) := by omega
      rcases hcb with h48 | h49
      · have t1 : ((c : Int) == 48) = true := by simp; omega
        have HR2 : Hid (RowC wo gb s.size (fun j => .int .u8 (cb s d (i + 1) j : Nat))) := Lib.hid (HRC.out.congr fun j _ => by rw [cb_skip HH.out HD.out (by omega) (hc.trans h48)])
        clear hc h48 hx
        go_wp2_with fail
        go_roundw
        case rel => exact ⟨i + 1, by go_num, by omega, HR2, HB⟩
        case measure => simp [intOf]; omega
      · have t1 : ((c : Int) == 48) = false := by simp; omega
        have HC49 : Hid (cb s d i i = 49) := Lib.hid (hc.trans h49)
        have HR2 : Hid (RowC wo gb s.size (fun j => .int .u8 ((if i ≤ j ∧ j < i + 0 then cb s d (i + 1) j else cb s d i j : Nat) : Int))) := Lib.hid (HRC.out.congr fun j _ => by rw [if_neg (by omega)])
        clear hc h49 hx
        go_wp2_with fail
        go_loopw [26] (fun vk wr => ∃ k : Nat, vk = .int .i64 k ∧ k ≤ d.size ∧ Hid (RowC wr gb s.size (fun j => .int .u8 ((if i ≤ j ∧ j < i + k then cb s d (i + 1) j else cb s d i j : Nat) : Int))) ∧ Hid (Below w.heap.size w wr)) (fun vk _ => d.size - (intOf vk).toNat)
        case atStart => exact ⟨0, rfl, by omega, HR2, HB⟩
        case round =>
          clear HR2 HB HRC q1
          obtain ⟨k, rfl, hk, HRC, HB⟩ := hrel
          obtain ⟨wo, rfl⟩ : ∃ wo, wo = wr := ⟨_, rfl⟩
          by_cases hkd : k < d.size
          · obtain ⟨p, hp⟩ : ∃ p, i + k = p := ⟨_, rfl⟩
            have ep : (i : Int) + (k : Int) = (p : Int) := by omega
            have wp : IntKind.i64.wrap (p : Int) = (p : Int) := IntWalk.i64_in _ (by omega)
            have hpn : p < s.size := by omega
            have q1 : wo.cell? ⟨gb, p, none⟩ = some (.int .u8 ((if i ≤ p ∧ p < i + k then cb s d (i + 1) p else cb s d i p : Nat) : Int)) := (HRC.out p hpn).1
            have q2 := (HRC.out p hpn).2
            rw [if_neg (by omega)] at q1
            have hy := byteS_get d k hkd
            have hst := cb_step HH.out HD.out (by omega) HC49.out hkd
            rw [hp] at hst
            have hab := cb_bit HH.out HD.out i p
            obtain ⟨a, ha⟩ : ∃ a, cb s d i p = a := ⟨_, rfl⟩
            obtain ⟨y, hyy⟩ : ∃ y, byteS d k = y := ⟨_, rfl⟩
            have hyb : y < 256 := by rw [← hyy]; exact byteS_lt _ _
            rw [ha] at q1 hst hab
            rw [hyy] at hy hst
            have x1 : bits .xor .u8 (y : Int) 48 = ((y ^^^ 48 : Nat) : Int) := xor_u8 y 48 hyb (by omega)
            obtain ⟨z, hz⟩ : ∃ z, y ^^^ 48 = z := ⟨_, rfl⟩
            have hzb : z < 256 := by rw [← hz]; exact Nat.xor_lt_two_pow (n := 8) hyb (by omega)
            rw [hz] at x1 hst
            have x2 := xor_u8 a z (by omega) hzb
            obtain ⟨v, hv⟩ : ∃ v, a ^^^ z = v := ⟨_, rfl⟩
            rw [hv] at x2 hst
            have HRC2 : Hid (RowC (wo.setCell ⟨gb, p, none⟩ (.int .u8 (v : Int))) gb s.size (fun j => .int .u8 ((if i ≤ j ∧ j < i + (k + 1) then cb s d (i + 1) j else cb s d i j : Nat) : Int))) := Lib.hid ((HRC.out.store hpn (.int .u8 (v : Int))).congr fun j _ => by
              by_cases hjp : j = p
              · rw [if_pos hjp, if_pos (by omega), hjp, hst]
              · rw [if_neg hjp]
                by_cases h2 : i ≤ j ∧ j < i + k
                · rw [if_pos h2, if_pos (by omega)]
                · rw [if_neg h2, if_neg (by omega)])
            have HB2 : Hid (Below w.heap.size w (wo.setCell ⟨gb, p, none⟩ (.int .u8 (v : Int)))) := Lib.hid (below_set HB.out HWB.out _)
            have p0 : (0 : Int) ≤ (p : Int) := by omega
            have p1 : (p : Int) < (s.size : Int) := by omega
            have k0 : (0 : Int) ≤ (k : Int) := by omega
            have k1 : (k : Int) < (d.size : Int) := by omega
            clear ha hyy hz hv hp hst hab
            go_wp2_with fail
            go_region
            go_wp2_with fail
            go_roundw
            case rel => exact ⟨k + 1, by go_num, by omega, Lib.hid (HRC2.out.drew 1), Lib.hid (below_drew1 HB2.out)⟩
            case measure => simp [intOf]; omega
          · obtain rfl : k = d.size := by omega
            have HR3 : Hid (RowC wo gb s.size (fun j => .int .u8 (cb s d (i + 1) j : Nat))) := Lib.hid (HRC.out.congr fun j hj => by
              by_cases h2 : i ≤ j ∧ j < i + d.size
              · rw [if_pos h2]
              · rw [if_neg h2, cb_far HH.out HD.out (by omega) hj (by omega)])
            go_wp2_with fail
            go_roundw
            case rel => exact ⟨i + 1, by go_num, by omega, HR3, HB⟩
            case measure => simp [intOf]; omega
    · have dx : decide ((x : Int) ≤ (s.size : Int)) = false := by simp; omega
      obtain ⟨K, hK⟩ : ∃ K, s.size + 1 - d.size = K := ⟨_, rfl⟩
      obtain rfl : i = K := by omega
      obtain ⟨L, hL⟩ : ∃ L, d.size - 1 = L := ⟨_, rfl⟩
      have hsum : i + L = s.size := by omega
      have hLL : s.size - i = L := by omega
      have RR := rowC_reads_at HRC.out i L (by omega)
      have k1 := conv_back L (fun q => cb s d i (i + q)) (some ⟨gb, i, none⟩) (gc - i) wo (fun q _ => by have := cb_bit HH.out HD.out i (i + q); omega) (fun h => by cases h) RR
      have k2 := conv_back L (fun q => cb s d i (i + q)) (some ⟨gb, i, none⟩) (gc - i) wo.drew (fun q _ => by have := cb_bit HH.out HD.out i (i + q); omega) (fun h => by cases h) RR
      have hrem : bytesOf L (fun q => cb s d i (i + q)) = cycR s d := by unfold cycR; rw [hL, hK]
      rw [hrem] at k1 k2
      have e1 : (s.size : Int) - (d.size : Int) = (i : Int) - 1 := by omega
      have w1 : IntKind.i64.wrap ((i : Int) - 1) = (i : Int) - 1 := IntWalk.i64_in _ (by omega)
      have e2 : (i : Int) - 1 + 1 = (i : Int) := by omega
      have w2 : IntKind.i64.wrap (i : Int) = (i : Int) := IntWalk.i64_in _ (by omega)
      have i0 : (0 : Int) ≤ (i : Int) := by omega
      have i1 : (i : Int) ≤ (s.size : Int) := by omega
      have i2 : i ≤ s.size := by omega
      have e5 : ((s.size : Int) - (i : Int)).toNat = L := by omega
      clear RR hrem hK hL hx
      go_wp2_with fail
      go_ret
      exact ⟨rfl, HB.out⟩
end Go.Proofs.YtmgpohomgblkkaaDoor
