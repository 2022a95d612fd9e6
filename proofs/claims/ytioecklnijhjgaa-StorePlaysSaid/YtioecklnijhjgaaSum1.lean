/- piece.Sum and the reference's SumOf. -/
import Derived.Test.YtioecklnijhjgaaRows
import Derived.Test.YtioecklnijhjgaaPlM0
import Derived.Test.YtioecklnijhjgaaPlM3
import Derived.Test.YtioecklnijhjgaaPlM4
set_option linter.unusedVariables false
set_option linter.unusedSimpArgs false
namespace Go.Proofs.Ytioecklnijhjgaa
open Go.RowKit

def bL (s : ByteArray) (k : Nat) : List Nat := (List.range k).map (byteS s)
theorem bL_succ (s : ByteArray) (k : Nat) : bL s (k + 1) = bL s k ++ [byteS s k] := by simp [bL, List.range_succ]
theorem bL_lt (s : ByteArray) (k : Nat) : ∀ c ∈ bL s k, c < 256 := by
  intro c hc
  obtain ⟨i, _, rfl⟩ := List.mem_map.1 hc
  exact byteS_lt _ _
theorem crcX_lt (s : ByteArray) (k : Nat) : crcX (bL s k) < 4294967296 := (crc_turned (bL_lt s k)).s32
/-- The checksum. -/
def crcN (s : ByteArray) : Nat := 4294967295 ^^^ crcX (bL s s.size)
theorem crcN_lt (s : ByteArray) : crcN s < 4294967296 := x32 (by omega) (crcX_lt s _)
theorem u32_not (x : Nat) (h : x < 4294967296) : bits .xor .u32 IntKind.u32.max (x : Int) = ((4294967295 ^^^ x : Nat) : Int) := u32_xor_nat 4294967295 x (by omega) h
theorem u32_in' (x : Nat) (h : x < 4294967296) : IntKind.u32.wrap (x : Int) = (x : Int) := u32_in _ (by omega) (by omega)
theorem u32_and_one (a : Nat) (ha : a < 4294967296) : bits .and .u32 (a : Int) 1 = ((a % 2 : Nat) : Int) := by
  rw [show (1 : Int) = ((1 : Nat) : Int) from rfl, u32_and_nat a 1 ha (by omega), Nat.and_one_is_mod]
set_option maxRecDepth 20000 in
set_option maxHeartbeats 1000000 in
theorem piece_Sum (s : ByteArray) (w : World) (hs : s.size ≤ 9223372036854775807) :
    Calls Try.prog 77 #[.string s] w fun e w' => e = .returned (.int .u32 (crcN s : Nat)) ∧ w = w' := by
  go_enter Try.func77, Try.ntmps77
  go_wp2_with fail
  go_loop [3, 7] (fun vx vi => ∃ k x : Nat, k ≤ s.size ∧ vi = .int .i64 k ∧ vx = .int .u32 x ∧ Hid (x = crcX (bL s k)) ∧ x < 4294967296) (fun _ vi => s.size - (intOf vi).toNat)
  case atStart => exact ⟨0, 4294967295, Nat.zero_le _, rfl, rfl, Lib.hid rfl, by omega⟩
  case round =>
    obtain ⟨k, x, hk, rfl, rfl, hx, hxb⟩ := hrel
    by_cases hlt : k < s.size
    · obtain ⟨c, hc⟩ : ∃ c, byteS s k = c := ⟨_, rfl⟩
      have hcb : c < 256 := by rw [← hc]; exact byteS_lt _ _
      have hbs := byteS_get s k hlt
      have e0 : IntKind.u32.wrap (s[k].toNat : Int) = (c : Int) := by rw [hbs, hc]; exact u32_in' c (by omega)
      obtain ⟨y, hy⟩ : ∃ y, x ^^^ c = y := ⟨_, rfl⟩
      have hyb : y < 4294967296 := by rw [← hy]; exact x32 hxb (by omega)
      have e1 : bits .xor .u32 (x : Int) (c : Int) = (y : Int) := by rw [u32_xor_nat x c hxb (by omega), hy]
      have hst : Hid (itP 8 y = crcX (bL s (k + 1))) := Lib.hid (by rw [bL_succ, crcX_snoc, ← hx.out, hc, hy])
      clear hc hbs hy
      go_wp2_with fail
      go_loop [3, 16] (fun vx vj => ∃ j z : Nat, j ≤ 8 ∧ vj = .int .i64 j ∧ vx = .int .u32 z ∧ Hid (z = itP j y) ∧ z < 4294967296) (fun _ vj => 8 - (intOf vj).toNat)
      case atStart => exact ⟨0, y, Nat.zero_le _, rfl, rfl, Lib.hid rfl, hyb⟩
      case round =>
        obtain ⟨j, z, hj, rfl, rfl, hz, hzb⟩ := hrel
        by_cases hj8 : j < 8
        · have b1 := u32_and_one z hzb
          rcases Nat.mod_two_eq_zero_or_one z with h | h
          · have t1 : (bits .and .u32 (z : Int) 1 == 1) = false := by rw [b1, h]; rfl
            have hz2 : Hid (z / 2 = itP (j + 1) y) := Lib.hid (by simp only [itP]; rw [← hz.out]; unfold stepP; rw [if_neg (by omega)])
            obtain ⟨u, hu⟩ : ∃ u, z / 2 = u := ⟨_, rfl⟩
            have eu : (z : Int) / 2 = (u : Int) := by omega
            have hub : u < 4294967296 := by omega
            rw [hu] at hz2
            clear h b1 hu
            go_wp2_with fail
            go_round
            case rel => exact ⟨j + 1, u, by omega, by go_num, rfl, hz2, hub⟩
            case measure => simp [intOf]; omega
          · have t1 : (bits .and .u32 (z : Int) 1 == 1) = true := by rw [b1, h]; rfl
            obtain ⟨u, hu⟩ : ∃ u, z / 2 = u := ⟨_, rfl⟩
            have eu : (z : Int) / 2 = (u : Int) := by omega
            have hub : u < 4294967296 := by omega
            have e3 : bits .xor .u32 (u : Int) 2197175160 = ((u ^^^ 2197175160 : Nat) : Int) := u32_xor_nat u 2197175160 hub (by omega)
            have hz2 : Hid (u ^^^ 2197175160 = itP (j + 1) y) := Lib.hid (by simp only [itP]; rw [← hz.out]; unfold stepP; rw [if_pos h, hu])
            have hvb : u ^^^ 2197175160 < 4294967296 := x32 hub (by omega)
            obtain ⟨v, hv⟩ : ∃ v, u ^^^ 2197175160 = v := ⟨_, rfl⟩
            rw [hv] at e3 hz2 hvb
            clear h b1 hu hv
            go_wp2_with fail
            go_round
            case rel => exact ⟨j + 1, v, by omega, by go_num, rfl, hz2, hvb⟩
            case measure => simp [intOf]; omega
        · obtain rfl : j = 8 := by omega
          have hz2 : Hid (z = crcX (bL s (k + 1))) := Lib.hid (hz.out.trans hst.out)
          go_wp2_with fail
          go_round
          case rel => exact ⟨k + 1, z, by omega, by go_num, rfl, hz2, hzb⟩
          case measure => simp [intOf]; omega
    · obtain rfl : k = s.size := by omega
      have hfin : Hid (4294967295 ^^^ x = crcN s) := Lib.hid (by unfold crcN; rw [← hx.out])
      have e9 := u32_not x hxb
      obtain ⟨y, hy⟩ : ∃ y, 4294967295 ^^^ x = y := ⟨_, rfl⟩
      rw [hy] at e9 hfin
      clear hy
      go_wp2_with fail
      go_ret
      exact ⟨by rw [← hfin.out]; rfl, rfl⟩
set_option maxRecDepth 20000 in
set_option maxHeartbeats 2000000 in
theorem ref_SumOf (s : ByteArray) (w : World) (hs : s.size ≤ 9223372036854775807) :
    Calls Try.prog 65 #[.string s] w fun e w' => e = .returned (.int .u32 (crcN s : Nat)) ∧ Below w.heap.size w w' := by
  have BS := run_bytes_of_string (P := Try.prog) w 9 73 5 s Try.underlying9 Try.underlying73 Try.underlying5
  obtain ⟨gc, hgc⟩ : ∃ gc, grownCap w s.size 0 5 = gc := ⟨_, rfl⟩
  rw [hgc] at BS
  obtain ⟨gb, hgb⟩ : ∃ gb, w.heap.size = gb := ⟨_, rfl⟩
  have RC : RowC (w.drew.alloc (.cells (bytesRow s gc) 5 ((bytesRow s gc).size, (bytesRow s gc).size + 1))) gb s.size (fun j => .int .u8 (byteS s j : Nat)) := by rw [← hgb]; exact rowC_of_string w.drew s gc
  have B7 : Below w.heap.size w (w.drew.alloc (.cells (bytesRow s gc) 5 ((bytesRow s gc).size, (bytesRow s gc).size + 1))) := (below_dr _ _ 1).alloc (Nat.le_refl _) _
  obtain ⟨W7, hW7⟩ : ∃ W7, w.drew.alloc (.cells (bytesRow s gc) 5 ((bytesRow s gc).size, (bytesRow s gc).size + 1)) = W7 := ⟨_, rfl⟩
  rw [hW7] at BS RC B7
  rw [hgb] at BS
  have HRC := Lib.hid RC
  have HB7 := Lib.hid B7
  clear RC B7 hW7 hgc hgb
  go_enter Try.func65, Try.ntmps65
  go_wp2_with fail
  clear BS
  go_loop [3, 13] (fun vx vi => ∃ k x : Nat, k ≤ s.size ∧ vi = .int .i64 k ∧ vx = .int .u32 x ∧ Hid (x = crcZ (bL s k)) ∧ x < 4294967296) (fun _ vi => s.size - (intOf vi).toNat)
  case atStart => exact ⟨0, 4294967295, Nat.zero_le _, rfl, rfl, Lib.hid rfl, by omega⟩
  case round =>
    obtain ⟨k, x, hk, rfl, rfl, hx, hxb⟩ := hrel
    by_cases hlt : k < s.size
    · obtain ⟨c, hc⟩ : ∃ c, byteS s k = c := ⟨_, rfl⟩
      have hcb : c < 256 := by rw [← hc]; exact byteS_lt _ _
      have c1 : W7.cell? ⟨gb, k, none⟩ = some (.int .u8 (byteS s k : Nat)) := (HRC.out k hlt).1
      rw [hc] at c1
      have hst : Hid (itR c 8 x = crcZ (bL s (k + 1))) := Lib.hid (by rw [bL_succ, crcZ_snoc, ← hx.out, hc])
      clear hc
      have k0 : (0 : Int) ≤ (k : Int) := by omega
      have k1 : (k : Int) < (s.size : Int) := by omega
      go_wp2_with fail
      go_loop [3, 17] (fun vx vj => ∃ j z : Nat, j ≤ 8 ∧ vj = .int .i64 j ∧ vx = .int .u32 z ∧ Hid (z = itR c j x) ∧ z < 4294967296) (fun _ vj => 8 - (intOf vj).toNat)
      case atStart => exact ⟨0, x, Nat.zero_le _, rfl, rfl, Lib.hid rfl, hxb⟩
      case round =>
        obtain ⟨j, z, hj, rfl, rfl, hz, hzb⟩ := hrel
        by_cases hj8 : j < 8
        · obtain ⟨q, hq⟩ : ∃ q, z / 2147483648 = q := ⟨_, rfl⟩
          have hqb : q ≤ 1 := by omega
          have d1 : (z : Int) / 2147483648 = (q : Int) := by omega
          obtain ⟨r, hr⟩ : ∃ r, c / 2 ^ j % 2 = r := ⟨_, rfl⟩
          have hrb : r ≤ 1 := by omega
          have d2 : bits .and .u8 ((c : Int) / 2 ^ j) 1 = (r : Int) := by
            have h1 : ((c : Int) / 2 ^ j) = ((c / 2 ^ j : Nat) : Int) := by push_cast; rfl
            rw [h1, u8_and_one _ (Nat.lt_of_le_of_lt (Nat.div_le_self _ _) hcb), hr]
          have d3 : IntKind.u32.wrap (r : Int) = (r : Int) := u32_in' r (by omega)
          obtain ⟨b, hb⟩ : ∃ b, q ^^^ r = b := ⟨_, rfl⟩
          have d4 : bits .xor .u32 (q : Int) (r : Int) = (b : Int) := by rw [u32_xor_nat q r (by omega) (by omega), hb]
          obtain ⟨y, hy⟩ : ∃ y, z * 2 % 4294967296 = y := ⟨_, rfl⟩
          have hyb : y < 4294967296 := by omega
          have d5 : IntKind.u32.wrap ((z : Int) * 2) = (y : Int) := by
            rw [← hy]
            simp only [IntKind.wrap, IntKind.signed, IntKind.bits]
            simp
          have hnx : Hid (itR c (j + 1) x = if b = 1 then y ^^^ 517762881 else y) := Lib.hid (by
            simp only [itR]
            rw [← hz.out, hr]
            unfold stepR
            rw [hq, hb, hy])
          clear hq hr hb hy
          by_cases hb1 : b = 1
          · have t1 : ((b : Int) == 1) = true := by simp [hb1]
            obtain ⟨v, hv⟩ : ∃ v, y ^^^ 517762881 = v := ⟨_, rfl⟩
            have hvb : v < 4294967296 := by rw [← hv]; exact x32 hyb (by omega)
            have d6 : bits .xor .u32 (y : Int) 517762881 = (v : Int) := by rw [← hv]; exact u32_xor_nat y 517762881 hyb (by omega)
            have hz2 : Hid (v = itR c (j + 1) x) := Lib.hid (by rw [hnx.out, if_pos hb1, hv])
            have hb2 : ¬ (b = 0) := by omega
            have HB1 := Lib.hid hb1
            clear hb1 hv
            go_wp2_with fail
            go_round
            case rel => exact ⟨j + 1, v, by omega, by go_num, rfl, hz2, hvb⟩
            case measure => simp [intOf]; omega
          · have t1 : ((b : Int) == 1) = false := by simp; omega
            have hz2 : Hid (y = itR c (j + 1) x) := Lib.hid (by rw [hnx.out, if_neg hb1])
            go_wp2_with fail
            go_round
            case rel => exact ⟨j + 1, y, by omega, by go_num, rfl, hz2, hyb⟩
            case measure => simp [intOf]; omega
        · obtain rfl : j = 8 := by omega
          have hz2 : Hid (z = crcZ (bL s (k + 1))) := Lib.hid (hz.out.trans hst.out)
          go_wp2_with fail
          go_round
          case rel => exact ⟨k + 1, z, by omega, by go_num, rfl, hz2, hzb⟩
          case measure => simp [intOf]; omega
    · obtain rfl : k = s.size := by omega
      go_wp2_with fail
      go_loop [8, 36] (fun vo vi => ∃ i o : Nat, i ≤ 32 ∧ vi = .int .i64 i ∧ vo = .int .u32 o ∧ Hid (o = revN x i) ∧ o < 4294967296) (fun _ vi => 32 - (intOf vi).toNat)
      case atStart => exact ⟨0, 0, Nat.zero_le _, rfl, rfl, Lib.hid rfl, by omega⟩
      case round =>
        obtain ⟨i, o, hi, rfl, rfl, ho, hob⟩ := hrel
        by_cases hi32 : i < 32
        · obtain ⟨r, hr⟩ : ∃ r, x / 2 ^ i % 2 = r := ⟨_, rfl⟩
          have hrb : r ≤ 1 := by omega
          have d1 : bits .and .u32 ((x : Int) / 2 ^ i) 1 = (r : Int) := by
            have h1 : ((x : Int) / 2 ^ i) = ((x / 2 ^ i : Nat) : Int) := by push_cast; rfl
            rw [h1, u32_and_one _ (Nat.lt_of_le_of_lt (Nat.div_le_self _ _) hxb), hr]
          obtain ⟨v, hv⟩ : ∃ v, r * 2 ^ (31 - i) = v := ⟨_, rfl⟩
          have hvb : v < 4294967296 := by
            rw [← hv]
            have h2 : 2 ^ (31 - i) ≤ 2 ^ 31 := Nat.pow_le_pow_right (by omega) (by omega)
            have := Nat.mul_le_mul hrb h2
            omega
          have d2 : (31 - (i : Int)).toNat = 31 - i := by omega
          have d2' : (0 : Int) ≤ 31 - (i : Int) := by omega
          have d3 : IntKind.u32.wrap ((r : Int) * 2 ^ (31 - i)) = (v : Int) := by
            have h1 : ((r : Int) * 2 ^ (31 - i)) = (v : Int) := by rw [← hv]; push_cast; rfl
            rw [h1]; exact u32_in' v hvb
          have d4 : bits .or .u32 (o : Int) (v : Int) = ((o ||| v : Nat) : Int) := u32_or_nat o v hob hvb
          have ho2 : Hid (o ||| v = revN x (i + 1)) := Lib.hid (by simp only [revN]; rw [← ho.out, hr, hv])
          have hob2 : o ||| v < 4294967296 := Nat.or_lt_two_pow (n := 32) hob hvb
          obtain ⟨u, hu⟩ : ∃ u, o ||| v = u := ⟨_, rfl⟩
          rw [hu] at d4 ho2 hob2
          clear hr hv hu
          go_wp2_with fail
          go_round
          case rel => exact ⟨i + 1, u, by omega, by go_num, rfl, ho2, hob2⟩
          case measure => simp [intOf]; omega
        · obtain rfl : i = 32 := by omega
          have hfin : Hid (4294967295 ^^^ o = crcN s) := Lib.hid (by
            unfold crcN
            rw [ho.out, hx.out, revN_turned (crc_turned (bL_lt s _))])
          have e9 := u32_not o hob
          obtain ⟨y, hy⟩ : ∃ y, 4294967295 ^^^ o = y := ⟨_, rfl⟩
          rw [hy] at e9 hfin
          clear hy
          go_wp2_with fail
          go_ret
          exact ⟨by rw [← hfin.out]; rfl, HB7.out⟩
end Go.Proofs.Ytioecklnijhjgaa
