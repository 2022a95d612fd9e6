/- Contract of welch.Mend. -/
import Derived.Test.YtgdcmebhopjfaaaRows
import Derived.Test.YtgdcmebhopjfaaaWelchB
import Derived.Test.YtgdcmebhopjfaaaTrM15
namespace Go.Proofs.Ytgdcmebhopjfaaa
open Go.RowKit

theorem one_lit (v : Value) (h : v.oneCell' = true) : ∀ u ∈ [v], u.oneCell' = true := by intro u hu; simp at hu; subst hu; exact h
def WelchPost (B : Nat → GF) (n k : Nat) (w : World) (e : Ending) (w' : World) : Prop :=
  Below w.heap.size w w' ∧ ((NotFound B n k ∧ e = .returned (.tuple #[.slice none 0 0, .int .i64 0, .int .i64 4])) ∨
    (∃ s, Found B n k s ∧ ∃ v, e = .returned (.tuple #[v, .int .i64 (setDiff B n k s : Nat), .int .i64 0]) ∧ w'.ownsRow w.heap.size 5 1 v n (rowF n (gfV (setRow B n k s)))))
set_option maxRecDepth 100000 in
set_option maxHeartbeats 4000000 in
theorem welch_Mend (B : Nat → GF) (n k : Nat) (ao : Option Addr) (cap : Nat) (w : World) (hn : n ≤ 12) (hk1 : 1 ≤ k) (hk2 : k ≤ n) (hR : Hid (Reads w ao (rowF n (gfV B)))) :
    Calls Try.prog 57 #[.slice ao n cap, .int .i64 k] w (WelchPost B n k w) := by
  have hc := welch_Check n k ao cap w
  have hce : chkE 12 n k = 0 := by unfold chkE; rw [if_neg (by omega), if_neg (by omega)]
  rw [hce] at hc
  have HC := Lib.hid hc
  obtain ⟨N, hN⟩ : ∃ N, 2 ^ n = N := ⟨_, rfl⟩
  have hN1 : N ≤ 4096 := by
    rw [← hN]
    exact Nat.pow_le_pow_right (n := 2) (by omega) hn
  have HN := Lib.hid hN
  have e0 : IntKind.u64.wrap ((2 : Int) ^ n) = (N : Int) := by
    have : ((2 : Int) ^ n) = (N : Int) := by rw [← hN, Int.natCast_pow]; rfl
    rw [this]; exact u64_in _ (by omega) (by omega)
  clear hc hce hN
  go_enter Try.func57, Try.ntmps57
  go_wp2_with fail
  refine HC.out.mono ?_
  rintro e w' ⟨rfl, rfl⟩
  go_wp2_with fail
  go_loopw [26] (fun vs wr => ∃ s : Nat, vs = .int .u64 s ∧ s ≤ N ∧ Hid (∀ t, t < s → ¬ near B n k t) ∧ Hid (Below w.heap.size w wr)) (fun vs _ => N - (intOf vs).toNat)
  case atStart => exact ⟨0, rfl, by omega, Lib.hid (by intro t ht; omega), Below.refl _ _⟩
  case round =>
    obtain ⟨s, rfl, hsN, hnot, hb⟩ := hrel
    by_cases hs : s < N
    · have hs2 : s < 4096 := by omega
      have ws : IntKind.u64.wrap ((s : Int) + 1) = (s : Int) + 1 := u64_in _ (by omega) (by omega)
      have hsn : Hid (s < 2 ^ n) := by show _ < _; rw [HN.out]; exact hs
      obtain ⟨c, hc⟩ : ∃ c, ones16 s = c := ⟨_, rfl⟩
      have HO := Lib.hid (fun W => bits_OnesCount s W hs2)
      rw [hc] at HO
      by_cases hck : c = k
      · subst hck
        have d1 : ((c : Int) != (c : Int)) = false := by simp
        have HLK : Hid ((pl (inS s) n).length = c) := by
          show _ = _
          rw [pl_ones16 (by omega) hsn.out, hc]
        have HONE := Lib.hid hc
        clear hc
        go_wp2_with fail
        refine (HO.out _).mono ?_
        rintro e w' ⟨rfl, rfl⟩
        go_wp2_with fail
        go_loopw [9, 10, 35] (fun va vb vi wx => ∃ i : Nat, vi = .int .i64 i ∧ i ≤ n ∧ ∃ L : List Nat, Hid (L = pl (inS s) i) ∧ L.length ≤ i ∧ Hid (wx.ownsRow w.heap.size 3 1 va L.length (placeR L)) ∧ Hid (wx.ownsRow w.heap.size 5 1 vb L.length (byteR B L)) ∧ Hid (Apart va vb) ∧ Hid (Below w.heap.size w wx)) (fun _ _ vi _ => n - (intOf vi).toNat)
        case atStart => exact ⟨0, rfl, by omega, [], Lib.hid rfl, by simp, Lib.hid (World.ownsRow_nil _ _ _ _), Lib.hid (World.ownsRow_nil _ _ _ _), (fun g h => by cases h), hb⟩
        case round =>
          obtain ⟨i, rfl, hin, L, hL, hLi, hra, hrb, hap, hb⟩ := hrel
          by_cases hi : i < n
          · obtain ⟨b1, o1, rfl, c1⟩ := (hR.out.below hb.out) i _ (rowF_get _ hi)
            unfold gfV at c1
            have HSU := Lib.hid (pl_succ (inS s) i)
            have e1 : bits .and .u64 ((s : Int) / 2 ^ i) 1 = ((s / 2 ^ i % 2 : Nat) : Int) := by
              have hle : s / 2 ^ i ≤ s := Nat.div_le_self _ _
              have h := u64_and_nat (s / 2 ^ i) 1 (by omega) (by omega)
              rw [Nat.and_one_is_mod] at h
              rw [← h]; push_cast; rfl
            rcases Nat.mod_two_eq_zero_or_one (s / 2 ^ i) with h01 | h01
            · have hL2 : Hid (L = pl (inS s) (i + 1)) := by
                show _ = _
                rw [HSU.out, if_neg (by rw [inS_false h01]; decide), hL.out]
              rw [h01] at e1
              clear h01
              go_wp2_with fail
              go_roundw
              case rel => exact ⟨i + 1, by go_num, by omega, L, hL2, by omega, hra, hrb, hap, hb⟩
              case measure => simp [intOf]; omega
            · have hL2 : Hid (L ++ [i] = pl (inS s) (i + 1)) := by
                show _ = _
                rw [HSU.out, if_pos (inS_true h01), hL.out]
              rw [h01] at e1
              clear h01
              have hm1 : Hid (L.length + 1 ≤ maxLen) := Lib.hid (by unfold maxLen; omega)
              have hm2 : Hid ((L.length + 1) * 8 ≤ 140737488355328) := Lib.hid (by omega)
              have hm3 : Hid ((L.length + 1) * 1 ≤ 140737488355328) := Lib.hid (by omega)
              go_wp2_with (at_builtin; first
                | (refine app_one2 rfl (.tmp 45) (.tmp 47) 22 rfl w.heap.size 3 _ 1 8 Try.underlying22 i64Info u9 L.length (placeR L) ?_ hra.out [.int .i64 (i : Int)] ?_ rfl (one_lit _ rfl) hm1.out hm2.out hb.out.size ?_; (focus rfl); (focus rfl); intro v7 w7 hown7 hgr7 hb7 hat7; have hr8 := Lib.hid (kept_apart hrb.out hgr7 hap.out); have hap7 : Hid (Apart v7 u10) := hap.out.grow hat7 (fun g hg => by have := (hrb.out.lt g hg).2; omega); have hb7' := Lib.hid (hb.out.trans hb7); have hr7 := Lib.hid hown7; clear hgr7 hat7 hb7 hown7)
                | (refine app_one2 rfl (.tmp 49) (.tmp 51) 59 rfl w.heap.size 5 _ 1 1 Try.underlying59 u8Info u10 L.length (byteR B L) ?_ hr8.out [.int .u8 ((B i).val : Int)] ?_ rfl (one_lit _ rfl) hm1.out hm3.out hb7'.out.size ?_; (focus rfl); (focus rfl); intro v8 w8 hown8 hgr8 hb8 hat8)
                | fail)
              have HS7 : Hid (w8.ownsRow w.heap.size 3 1 v7 (L ++ [i]).length (placeR (L ++ [i]))) := by
                show World.ownsRow _ _ _ _ _ _ _
                have := kept_apart hr7.out hgr8 hap7.out.symm
                rw [placeR_snoc, List.length_append]; exact this
              have HS8 : Hid (w8.ownsRow w.heap.size 5 1 v8 (L ++ [i]).length (byteR B (L ++ [i]))) := by
                show World.ownsRow _ _ _ _ _ _ _
                rw [byteR_snoc, List.length_append]; exact hown8
              have HA : Hid (Apart v7 v8) := (hap7.out.symm.grow hat8 fun g hg => by have := (hr7.out.lt g hg).2; omega).symm
              have HB8 := Lib.hid (hb7'.out.trans hb8)
              have HLn : (L ++ [i]).length ≤ i + 1 := by simp; omega
              clear hown8 hgr8 hb8 hat8 hr7 hr8 hap7 hb7'
              go_wp2_with fail
              go_roundw
              case rel => exact ⟨i + 1, by go_num, by omega, L ++ [i], hL2, HLn, HS7, HS8, HA, HB8⟩
              case measure => simp [intOf]; omega
          · have hi2 : i = n := by omega
            have hL1 := hL.out
            rw [hi2] at hL1
            have hll : L.length = c := by rw [hL1]; exact HLK.out
            have hPm : ∀ a ∈ L, a < 256 := fun a ha => by rw [hL1] at ha; have := (mem_pl.1 ha).1; omega
            obtain ⟨a7, c7, rfl, ra7, _, _⟩ := own_reads hra.out
            obtain ⟨a8, c8, rfl, ra8, _, _⟩ := own_reads hrb.out
            have ra7' := ra7.take c
            have ra8' := ra8.take c
            have hP1 := placeR_row (P := L) (k := c) (by omega) hPm
            have hP2 := byteR_row (P := L) (k := c) B (by omega)
            rw [List.take_of_length_le (by omega)] at hP1 hP2
            rw [hP1] at ra7
            rw [hP2] at ra8
            have R7 := Lib.hid ra7
            have R8 := Lib.hid ra8
            have HLL := Lib.hid hL1
            have HLC := Lib.hid hll
            rw [hll]
            clear ra7 ra8 ra7' ra8' hP1 hP2 hra hrb hap hL1 hll hL hLi
            go_wp2_with fail
            refine (reed_Row (atP L) (byP B L) c n a7 a8 c7 c8 wr (by omega) (by omega) R7 R8).mono ?_
            rintro e w1 ⟨g, cp, rfl, hO, hb1⟩
            have hrow : Hid (Own w1 w.heap.size 5 g n cp (gfV (setRow B n c s))) := by
              have := own_mono hO hb.out.size
              have e : (gfV (setRow B n c s)) = gfV fun j => lag (atP L) (byP B L) c (gf j) := by rw [HLL.out]; rfl
              rw [e]; exact this
            have HB1 := Lib.hid (hb.out.trans (Below.mono hb1 hb.out.size))
            have HR1 := Lib.hid ((hR.out.below hb.out).below hb1)
            clear hO hb1 R7 R8
            go_wp2_with fail
            go_loop [14, 61] (fun vc vi => ∃ i : Nat, vi = .int .i64 i ∧ i ≤ n ∧ ∃ q : Nat, vc = .int .i64 q ∧ q ≤ i ∧ Hid (q = diffs (setRow B n c s) B i)) (fun _ vi => n - (intOf vi).toNat)
            case atStart => exact ⟨0, rfl, by omega, 0, rfl, by omega, rfl⟩
            case round =>
              obtain ⟨i, rfl, hin, q, rfl, hqi, hq⟩ := hrel
              by_cases hi : i < n
              · obtain ⟨b1, o1, rfl, c1⟩ := HR1.out i _ (rowF_get _ hi)
                have c2 := hrow.out.cell hi
                obtain ⟨y, hy⟩ : ∃ y, (setRow B n c s i).val = y := ⟨_, rfl⟩
                unfold gfV at c1 c2
                rw [hy] at c2
                by_cases hv : y = (B i).val
                · have hq2 : Hid (q = diffs (setRow B n c s) B (i + 1)) := by
                    show _ = _
                    rw [diffs, hy, if_pos hv, ← hq.out]; rfl
                  have d2 : ((y : Int) != ((B i).val : Int)) = false := by simp; omega
                  clear hv hy
                  go_wp2_with fail
                  go_round
                  case rel => exact ⟨i + 1, by go_num, by omega, q, rfl, by omega, hq2⟩
                  case measure => simp [intOf]; omega
                · have hq2 : Hid (q + 1 = diffs (setRow B n c s) B (i + 1)) := by
                    show _ = _
                    rw [diffs, hy, if_neg hv, ← hq.out]
                  have d2 : ((y : Int) != ((B i).val : Int)) = true := by simp; omega
                  clear hv hy
                  go_wp2_with fail
                  go_round
                  case rel => exact ⟨i + 1, by go_num, by omega, q + 1, by go_num, by omega, hq2⟩
                  case measure => simp [intOf]; omega
              · have hq2 : Hid (setDiff B n c s = q) := by
                  have : i = n := by omega
                  show _ = _
                  rw [hq.out, this]; rfl
                obtain ⟨d, hd⟩ : ∃ d, n = c + d := ⟨n - c, by omega⟩
                have hd1 : (n : Int) - c = (d : Int) := by omega
                have hd2 : IntKind.i64.wrap (d : Int) = (d : Int) := IntWalk.i64_in _ (by omega)
                have hd3 : Int.tdiv (d : Int) 2 = ((d / 2 : Nat) : Int) := by rw [Int.tdiv_eq_ediv_of_nonneg (by omega)]; omega
                have hd4 : IntKind.i64.wrap ((d / 2 : Nat) : Int) = ((d / 2 : Nat) : Int) := IntWalk.i64_in _ (by omega)
                by_cases hle : q ≤ d / 2
                · have hf : Hid (Found B n c s) := ⟨hsn.out, ⟨HONE.out, by rw [hq2.out]; omega⟩, hnot.out⟩
                  have d2 : decide ((q : Int) ≤ ((d / 2 : Nat) : Int)) = true := by simp; omega
                  have d2' : decide ((q : Int) ≤ (d : Int) / 2) = true := by simp; omega
                  clear hd
                  go_wp2_with fail
                  go_ret3
                  exact ⟨HB1.out, .inr ⟨s, hf.out, .slice (some ⟨g, 0, none⟩) n cp, by rw [hq2.out]; rfl, hrow.out⟩⟩
                · have hnf : Hid (¬ near B n c s) := fun h => hle (by have := h.2; rw [hq2.out] at this; omega)
                  have d2 : decide ((q : Int) ≤ ((d / 2 : Nat) : Int)) = false := by simp; omega
                  have d2' : decide ((q : Int) ≤ (d : Int) / 2) = false := by simp; omega
                  have hnot2 : Hid (∀ t, t < s + 1 → ¬ near B n c t) := by
                    intro t ht
                    rcases Nat.lt_or_ge t s with h | h
                    · exact hnot.out t h
                    · obtain rfl : t = s := by omega
                      exact hnf.out
                  clear hd
                  go_wp2_with fail
                  go_roundw
                  case rel => exact ⟨s + 1, by go_num, by omega, hnot2, HB1⟩
                  case measure => simp [intOf]; omega
      · have d1 : ((c : Int) != (k : Int)) = true := by simp; omega
        have hnot2 : Hid (∀ t, t < s + 1 → ¬ near B n k t) := by
          intro t ht
          rcases Nat.lt_or_ge t s with h | h
          · exact hnot.out t h
          · obtain rfl : t = s := by omega
            intro h
            exact hck (hc ▸ h.1)
        clear hc hck
        go_wp2_with fail
        refine (HO.out _).mono ?_
        rintro e w' ⟨rfl, rfl⟩
        go_wp2_with fail
        go_roundw
        case rel => exact ⟨s + 1, by go_num, by omega, hnot2, hb⟩
        case measure => simp [intOf]; omega
    · have hnf : Hid (NotFound B n k) := by
        intro t ht
        rw [HN.out] at ht
        exact hnot.out t (by omega)
      go_wp2_with fail
      go_ret3
      exact ⟨hb.out, .inl ⟨hnf.out, rfl⟩⟩
end Go.Proofs.Ytgdcmebhopjfaaa
