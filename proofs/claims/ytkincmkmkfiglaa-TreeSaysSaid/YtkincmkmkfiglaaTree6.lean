/- Contract of tree.Prove. -/
import Derived.Test.YtkincmkmkfiglaaRows
import Derived.Test.YtkincmkmkfiglaaTree5
import Derived.Test.YtkincmkmkfiglaaMem2
namespace Go.Proofs.Ytkincmkmkfiglaa
open Go.RowKit

theorem own_reads_at {w : World} {base : Nat} {e : TypeId} {size : Nat} {v : Value} {n : Nat} {xs : List Value} (h : w.ownsRow base e size v n xs) :
    ∃ ao cap, v = .slice ao n cap ∧ Reads w ao xs ∧ (ao = none → n = 0 ∧ cap = 0) ∧ ∀ a, ao = some a → base ≤ a.block := by
  rcases h.2 with ⟨rfl, rfl⟩ | ⟨g, cap, cur, hv, hbg, h2⟩
  · have hx : xs = [] := List.eq_nil_of_length_eq_zero (by simpa using h.1)
    subst hx
    exact ⟨none, 0, rfl, Reads.nil _ _, fun _ => ⟨rfl, rfl⟩, by intro a h; cases h⟩
  · refine ⟨_, cap, hv, ?_, (by intro h; cases h), by intro a ha; cases ha; exact hbg⟩
    intro j u hu
    refine ⟨g, 0, rfl, ?_⟩
    have := h.cells (g := g) (by rw [hv]; rfl) j u hu
    rw [Addr.add_lit] at this
    exact this
set_option maxRecDepth 20000 in
theorem Prove_bad (len : Nat) (ao : Option Addr) (cap : Nat) (k : Int) (w : World) (h : len < 1 ∨ 16 < len) :
    Calls Try.prog 40 #[.slice ao len cap, .int .i64 k] w fun e w' => e = .returned (.tuple #[.slice none 0 0, .int .i64 2]) ∧ w = w' := by
  have HC := Lib.hid (leaves_bad len ao cap w h)
  go_enter Try.func40, Try.ntmps40
  go_wp2_with fail
  refine HC.out.mono ?_
  rintro e w' ⟨rfl, rfl⟩
  go_wp2_with fail
  go_ret2
  exact ⟨rfl, rfl⟩
set_option maxRecDepth 20000 in
set_option maxHeartbeats 1000000 in
theorem Prove_none (ss : List ByteArray) (len : Nat) (ao : Option Addr) (cap : Nat) (k : Int) (w : World) (hl : ss.length = len) (h0 : 1 ≤ len) (h16 : len ≤ 16) (hs : Hid (∀ s ∈ ss, s.size ≤ 9223372036854775807)) (hR : Hid (Reads w ao (ss.map Value.string)))
    (hk : k < 0 ∨ (len : Int) ≤ k) :
    Calls Try.prog 40 #[.slice ao len cap, .int .i64 k] w fun e w' => e = .returned (.tuple #[.slice none 0 0, .int .i64 4]) ∧ Below w.heap.size w w' := by
  have HC := Lib.hid (leaves_good ss len ao cap w hl h0 h16 hs hR)
  rcases hk with hk | hk
  · have d1 : decide (k < 0) = true := by simp; omega
    go_enter Try.func40, Try.ntmps40
    go_wp2_with fail
    refine HC.out.mono ?_
    rintro e w' ⟨v, rfl, hown, hb1⟩
    have HB1 := Lib.hid hb1
    clear hown hb1
    go_wp2_with fail
    go_ret2
    exact ⟨rfl, HB1.out⟩
  · have d1 : decide (k < 0) = false := by simp; omega
    have d2 : decide ((len : Int) ≤ k) = true := by simp; omega
    go_enter Try.func40, Try.ntmps40
    go_wp2_with fail
    refine HC.out.mono ?_
    rintro e w' ⟨v, rfl, hown, hb1⟩
    have HB1 := Lib.hid hb1
    clear hown hb1
    go_wp2_with fail
    go_ret2
    exact ⟨rfl, HB1.out⟩
theorem xor_lt16 {k : Nat} (h : k < 16) : k ^^^ 1 < 16 := Nat.xor_lt_two_pow (n := 4) h (by omega)
def OutPost (W : List Nat) (w : World) (e : Ending) (w' : World) : Prop :=
  ∃ v, e = .returned (.tuple #[v, .int .i64 0]) ∧ w'.ownsRow w.heap.size 65 1 v W.length (uL W) ∧ Below w.heap.size w w'
set_option maxRecDepth 20000 in
set_option maxHeartbeats 1000000 in
theorem Prove_good (ss : List ByteArray) (len : Nat) (ao : Option Addr) (cap : Nat) (k : Nat) (w : World) (hl : ss.length = len) (h0 : 1 ≤ len) (h16 : len ≤ 16) (hs : Hid (∀ s ∈ ss, s.size ≤ 9223372036854775807)) (hR : Hid (Reads w ao (ss.map Value.string)))
    (hk : k < len) :
    Calls Try.prog 40 #[.slice ao len cap, .int .i64 k] w (OutPost (wayOf nodeN (leafL ss) k) w) := by
  have HC := Lib.hid (leaves_good ss len ao cap w hl h0 h16 hs hR)
  have HLL : Hid ((leafL ss).length = len) := by show _ = _; rw [leafL_length, hl]
  have HLT := Lib.hid (leafL_lt hs.out)
  obtain ⟨W, hW⟩ : ∃ T, wayOf nodeN (leafL ss) k = T := ⟨_, rfl⟩
  have HW := Lib.hid hW
  rw [hW]
  have d1 : decide ((k : Int) < 0) = false := by simp
  have d2 : decide ((len : Int) ≤ k) = false := by simp; omega
  have d3 : decide (len ≤ k) = false := by simp; omega
  clear hW hl
  go_enter Try.func40, Try.ntmps40
  go_wp2_with fail
  refine HC.out.mono ?_
  rintro e w1 ⟨v, rfl, hown, hb1⟩
  obtain ⟨ao1, cp1, rfl, hR1, _, _⟩ := own_reads hown
  rw [HLL.out]
  have HR1 := Lib.hid hR1
  have HB1 := Lib.hid hb1
  clear hR1 hb1 hown
  go_wp2_with fail
  clear d1 d2 d3
  go_loopw [1, 6, 8] (fun vk vl vo wr => ∃ (c : List Nat) (n : Nat) (a : Option Addr) (p : Nat) (q : Nat) (o : List Nat) (m : Nat), vl = .slice a n p ∧ Hid (c.length = n) ∧ n ≤ 16 ∧ vk = .int .i64 q ∧ q < n ∧ Hid (o ++ wayOf nodeN c q = W) ∧ m = o.length ∧ m + n ≤ 16 ∧ Hid (∀ x ∈ c, x < 18446744073709551616) ∧ Hid (Reads wr a (uL c)) ∧ Hid (Below w.heap.size w wr)
      ∧ Hid (wr.ownsRow w.heap.size 65 1 vo m (uL o)) ∧ Hid (∀ b, a = some b → some b.block ≠ vo.ownBlock)) (fun _ vl _ _ => slen vl)
  case atStart => exact ⟨leafL ss, len, ao1, cp1, k, [], 0, rfl, HLL, h16, rfl, hk, HW, rfl, by omega, HLT, HR1, HB1, World.ownsRow_nil _ _ _ _, Lib.hid (by intro b _; simp [Value.ownBlock])⟩
  case round =>
    obtain ⟨c, n, a, p, q, o, m, rfl, hc, hn16, rfl, hq, hw, rfl, hmn, hlt, hr, hb, hro, hap⟩ := hrel
    by_cases hn : 1 < n
    · have hqx := xor_lt16 (show q < 16 by omega)
      have ex : bits .xor .i64 (q : Int) 1 = ((q ^^^ 1 : Nat) : Int) := i64_xor_nat q 1 (by omega) (by omega)
      have hway := wayOf_up nodeN (l := c) (k := q) (by rw [hc.out]; omega) (by rw [hc.out]; omega) (by rw [hc.out]; omega)
      rw [hc.out] at hway
      obtain ⟨y, hy⟩ : ∃ y, q ^^^ 1 = y := ⟨_, rfl⟩
      rw [hy] at ex hway hqx
      obtain ⟨q2, hq2⟩ : ∃ q2, q / 2 = q2 := ⟨_, rfl⟩
      have e2 : (q : Int) / 2 = (q2 : Int) := by omega
      have e3 : Int.tdiv (q : Int) 2 = (q2 : Int) := by rw [Int.tdiv_eq_ediv_of_nonneg (by omega), e2]
      rw [hq2] at hway
      have hlen : (upL nodeN c).length = (n + 1) / 2 := by rw [upL_length, hc.out]
      have HLEN := Lib.hid hlen
      have hq2n : q2 < (n + 1) / 2 := by omega
      have w3 : IntKind.i64.wrap (q2 : Int) = (q2 : Int) := IntWalk.i64_in _ (by omega)
      clear hlen hy hq2
      by_cases hyn : y < n
      · rw [if_pos hyn] at hway
        obtain ⟨x, hx⟩ : ∃ x, c[y]? = some x := ⟨c[y]'(by rw [hc.out]; exact hyn), List.getElem?_eq_getElem _⟩
        have hgd : c.getD y 0 = x := by rw [List.getD_eq_getElem?_getD, hx]; rfl
        rw [hgd] at hway
        obtain ⟨b, of, rfl, cx⟩ := hr.out y _ (uL_get hx)
        have HW2 : Hid ((o ++ [x]) ++ wayOf nodeN (upL nodeN c) q2 = W) := by show _ = _; rw [List.append_assoc, ← hway]; exact hw.out
        clear hway hgd hx
        go_wp2_with (at_builtin; go_must (refine app_one2 rfl (.tmp 33) (.tmp 39) _ rfl w.heap.size 65 _ 1 8 Try.underlying66 u64InfoT _ o.length (uL o) (by rfl) hro.out [.int .u64 (x : Int)] (by rfl) rfl (by intro u hu; simp at hu; subst hu; rfl) (by unfold maxLen; omega) (by omega) hb.out.size ?_); intro v2 w2 hown2 hgr2 hb3 hat2)
        have hR2 := Lib.hid ((hr.out.alloc _).grown hgr2 (by intro b2 hb2; exact hap.out b2 hb2))
        have HU := Lib.hid (tree_up c n (some ⟨b, of, none⟩) p w2 hc.out hn16 hlt hR2.out)
        have HB2 := Lib.hid (hb.out.trans hb3)
        have HO2 := Lib.hid hown2
        clear hown2 hgr2 hb3 hat2 hR2
        go_wp2_with fail
        refine HU.out.mono ?_
        rintro e w3 ⟨v, rfl, hown, hb4⟩
        obtain ⟨ao2, cp2, rfl, hR3, _, hblk⟩ := own_reads_at hown
        rw [HLEN.out]
        have HR3 := Lib.hid hR3
        have HB3 := Lib.hid (HB2.out.trans (Below.mono hb4 HB2.out.size))
        have HO3 := Lib.hid (own_below HO2.out hb4)
        have HAP : Hid (∀ b, ao2 = some b → some b.block ≠ v2.ownBlock) := by
          intro b2 hb2 he
          have h1 := hblk b2 hb2
          have h2 := (HO2.out.lt _ he.symm).2
          omega
        clear hown hR3 hb4 hblk HU
        go_wp2_with fail
        go_roundw
        case rel => exact ⟨upL nodeN c, (n + 1) / 2, ao2, cp2, q2, o ++ [x], (o ++ [x]).length, rfl, HLEN, by omega, by go_num, hq2n, HW2, rfl, by rw [List.length_append]; show o.length + 1 + _ ≤ _; omega, Lib.hid (upL_all nodeN_lt c hlt.out), HR3, HB3, Lib.hid (by rw [uL_snoc, List.length_append]; exact HO3.out), HAP⟩
        case measure => simp [slen]; omega
      · rw [if_neg hyn, List.nil_append] at hway
        have HW2 : Hid (o ++ wayOf nodeN (upL nodeN c) q2 = W) := by show _ = _; rw [← hway]; exact hw.out
        have HU := Lib.hid (tree_up c n a p wr hc.out hn16 hlt hr.out)
        clear hway
        go_wp2_with fail
        refine HU.out.mono ?_
        rintro e w3 ⟨v, rfl, hown, hb4⟩
        obtain ⟨ao2, cp2, rfl, hR3, _, hblk⟩ := own_reads_at hown
        rw [HLEN.out]
        have HR3 := Lib.hid hR3
        have HB3 := Lib.hid (hb.out.trans (Below.mono hb4 hb.out.size))
        have HO3 := Lib.hid (own_below hro.out hb4)
        have HAP : Hid (∀ b, ao2 = some b → some b.block ≠ u8.ownBlock) := by
          intro b2 hb2 he
          have h1 := hblk b2 hb2
          have h2 := (hro.out.lt _ he.symm).2
          omega
        clear hown hR3 hb4 hblk HU
        go_wp2_with fail
        go_roundw
        case rel => exact ⟨upL nodeN c, (n + 1) / 2, ao2, cp2, q2, o, o.length, rfl, HLEN, by omega, by go_num, hq2n, HW2, rfl, by omega, Lib.hid (upL_all nodeN_lt c hlt.out), HR3, HB3, HO3, HAP⟩
        case measure => simp [slen]; omega
    · obtain rfl : n = 1 := by omega
      obtain rfl : q = 0 := by omega
      obtain ⟨x, hx⟩ : ∃ x, c = [x] := List.length_eq_one_iff.1 hc.out
      have HWO : Hid (o = W) := by
        have h := hw.out
        rw [hx, wayOf_one, List.append_nil] at h
        exact h
      clear hx
      obtain ⟨ao3, cp3, rfl, hR3, hnone, hmx⟩ := own_reads hro.out
      have HR3 := Lib.hid hR3
      have hm15 : o.length ≤ 15 := by omega
      clear hR3 hmx
      obtain ⟨M, hM⟩ : ∃ M, o.length = M := ⟨_, rfl⟩
      rw [hM] at hnone hm15 ⊢
      have HM := Lib.hid hM
      clear hM hro
      go_wp2_with (first | (at_make; refine make_cap rfl _ _ 66 rfl w.heap.size 65 _ 1 8 Try.underlying66 u64InfoT _ _ _ M rfl rfl rfl ?m1 ?m2 hb.out.size ?_))
      case m1 => omega
      case m2 => unfold maxLen; omega
      intro w4 hown4 hg4
      have HR4 := Lib.hid (HR3.out.grown hg4 (by intro a _ h; cases h))
      have HB4 := Lib.hid (hb.out.trans (below_of_grown hg4 hb.out.size (by intro k hk; cases hk)))
      go_wp2_with (at_builtin; go_must (refine app_all rfl (.tmp 47) (.tmp 48) _ rfl w.heap.size 65 _ 1 8 Try.underlying66 u64InfoT _ 0 [] (by rfl) hown4 ao3 M cp3 (uL o) (by rfl) hnone (by rw [uL_length, HM.out, Nat.mul_one]) HR4.out (by intro u hu; obtain ⟨_, _, rfl⟩ := List.mem_map.1 hu; rfl) (by unfold maxLen; omega) (by omega) HB4.out.size ?_); intro v5 w5 hown5 hgr5 hb5)
      have hfin : Hid (OutPost W w (.returned (.tuple #[v5, .int .i64 0])) w5) := ⟨v5, rfl, by
        rw [Nat.zero_add, List.nil_append] at hown5
        rw [← HWO.out, HM.out]; exact hown5, HB4.out.trans hb5⟩
      clear hown4 hown5 hgr5 hb5
      go_wp2_with fail
      go_ret2
      exact hfin.out
end Go.Proofs.Ytkincmkmkfiglaa
