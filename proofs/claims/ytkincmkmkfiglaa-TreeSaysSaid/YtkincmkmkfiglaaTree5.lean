/- Contracts of tree.leaves and tree.Root. -/
import Derived.Test.YtkincmkmkfiglaaRows
import Derived.Test.YtkincmkmkfiglaaTree3
import Derived.Test.YtkincmkmkfiglaaTree4
namespace Go.Proofs.Ytkincmkmkfiglaa
open Go.RowKit

def leafL (ss : List ByteArray) : List Nat := ss.map leafN
theorem leafL_get {ss : List ByteArray} {k : Nat} {s : ByteArray} (h : ss[k]? = some s) : (leafL ss)[k]? = some (leafN s) := by unfold leafL; rw [List.getElem?_map, h]; rfl
theorem leafL_length (ss : List ByteArray) : (leafL ss).length = ss.length := List.length_map _
def badN (len : Nat) : Prop := len < 1 ∨ 16 < len
set_option maxRecDepth 20000 in
theorem leaves_bad (len : Nat) (ao : Option Addr) (cap : Nat) (w : World) (h : len < 1 ∨ 16 < len) :
    Calls Try.prog 105 #[.slice ao len cap] w fun e w' => e = .returned (.tuple #[.slice none 0 0, .int .i64 2]) ∧ w = w' := by
  rcases h with h | h
  · obtain rfl : len = 0 := by omega
    go_enter Try.func105, Try.ntmps105
    go_wp2_with fail
    go_ret2
    exact ⟨rfl, rfl⟩
  · have h1 : decide ((len : Int) < 1) = false := by simp; omega
    have h2 : decide ((16 : Int) < len) = true := by simp; omega
    go_enter Try.func105, Try.ntmps105
    go_wp2_with fail
    go_ret2
    exact ⟨rfl, rfl⟩
def LeavesPost (l : List Nat) (w : World) (e : Ending) (w' : World) : Prop :=
  ∃ v, e = .returned (.tuple #[v, .int .i64 0]) ∧ w'.ownsRow w.heap.size 65 1 v l.length (uL l) ∧ Below w.heap.size w w'
set_option maxRecDepth 20000 in
set_option maxHeartbeats 1000000 in
theorem leaves_good (ss : List ByteArray) (len : Nat) (ao : Option Addr) (cap : Nat) (w : World) (hl : ss.length = len) (h0 : 1 ≤ len) (h16 : len ≤ 16) (hs : Hid (∀ s ∈ ss, s.size ≤ 9223372036854775807)) (hR : Hid (Reads w ao (ss.map Value.string))) :
    Calls Try.prog 105 #[.slice ao len cap] w (LeavesPost (leafL ss) w) := by
  have HL := Lib.hid hl
  clear hl
  have h1 : decide ((len : Int) < 1) = false := by simp; omega
  have h2 : decide ((16 : Int) < len) = false := by simp; omega
  go_enter Try.func105, Try.ntmps105
  go_wp2_with fail
  go_loopw [4, 17] (fun vo vi wr => ∃ k : Nat, vi = .int .i64 k ∧ k ≤ len ∧ Hid (wr.ownsRow w.heap.size 65 1 vo k (uL ((leafL ss).take k))) ∧ Hid (Below w.heap.size w wr)) (fun _ vi _ => len - (intOf vi).toNat)
  case atStart => exact ⟨0, rfl, by omega, World.ownsRow_nil _ _ _ _, Below.refl _ _⟩
  case round =>
    obtain ⟨k, rfl, hk, hrow, hbl⟩ := hrel
    by_cases hlt : k < len
    · obtain ⟨s, ha⟩ : ∃ a, ss[k]? = some a := ⟨ss[k]'(by rw [HL.out]; exact hlt), List.getElem?_eq_getElem _⟩
      have hsz := hs.out s (List.mem_of_getElem? ha)
      obtain ⟨b, o, rfl, ca⟩ := (hR.out.below hbl.out) k (.string s) (by rw [List.getElem?_map, ha]; rfl)
      have HST := Lib.hid (take_snocN (leafL_get ha))
      have HC := Lib.hid (tree_Leaf s wr hsz)
      obtain ⟨n, hn⟩ : ∃ n, leafN s = n := ⟨_, rfl⟩
      rw [hn] at HST HC
      clear ha hn
      go_wp2_with fail
      refine HC.out.mono ?_
      rintro e w' ⟨rfl, rfl⟩
      go_wp2_with (at_builtin; go_must (refine app_one rfl (.tmp 21) (.tmp 24) _ rfl w.heap.size 65 _ 1 8 Try.underlying66 u64InfoT _ k (uL ((leafL ss).take k)) (by rfl) hrow.out [.int .u64 (n : Int)] (by rfl) rfl (by intro u hu; simp at hu; subst hu; rfl) (by unfold maxLen; omega) (by omega) hbl.out.size ?_); intro v2 w2' hown2 hgr2 hb3)
      go_roundw
      case rel => exact ⟨k + 1, by go_num, by omega, Lib.hid (by rw [HST.out, uL_snoc]; exact hown2), Lib.hid (hbl.out.trans hb3)⟩
      case measure => simp [intOf]; omega
    · have hk2 : Hid (k = (leafL ss).length) := by show _ = _; rw [leafL_length, HL.out]; omega
      have hfin : Hid (LeavesPost (leafL ss) w (.returned (.tuple #[u4, .int .i64 0])) wr) := ⟨u4, rfl, by
        have h := hrow.out
        rw [List.take_of_length_le (by rw [hk2.out]; exact Nat.le_refl _), hk2.out] at h
        exact h, hbl.out⟩
      go_wp2_with fail
      go_ret2
      exact hfin.out
theorem leafL_lt {ss : List ByteArray} (hs : ∀ s ∈ ss, s.size ≤ 9223372036854775807) : ∀ x ∈ leafL ss, x < 18446744073709551616 := by
  intro x hx
  obtain ⟨s, hm, rfl⟩ := List.mem_map.1 hx
  exact leafN_lt s (by have := hs s hm; omega)
theorem upL_all {node : Nat → Nat → Nat} {p : Nat → Prop} (hn : ∀ a b, p (node a b)) : ∀ (l : List Nat), (∀ x ∈ l, p x) → ∀ x ∈ upL node l, p x
  | [], h => h
  | [_], h => h
  | a :: b :: l, h => by
    intro x hx
    simp only [upL, List.mem_cons] at hx
    rcases hx with rfl | hx
    · exact hn a b
    · exact upL_all hn l (fun y hy => h y (by simp [hy])) x hx
def slen : Value → Nat
  | .slice _ n _ => n
  | _ => 0
set_option maxRecDepth 20000 in
theorem Root_bad (len : Nat) (ao : Option Addr) (cap : Nat) (w : World) (h : len < 1 ∨ 16 < len) :
    Calls Try.prog 39 #[.slice ao len cap] w fun e w' => e = .returned (.tuple #[.int .u64 0, .int .i64 2]) ∧ w = w' := by
  have HC := Lib.hid (leaves_bad len ao cap w h)
  go_enter Try.func39, Try.ntmps39
  go_wp2_with fail
  refine HC.out.mono ?_
  rintro e w' ⟨rfl, rfl⟩
  go_wp2_with fail
  go_ret2
  exact ⟨rfl, rfl⟩
set_option maxRecDepth 20000 in
set_option maxHeartbeats 1000000 in
theorem Root_good (ss : List ByteArray) (len : Nat) (ao : Option Addr) (cap : Nat) (w : World) (hl : ss.length = len) (h0 : 1 ≤ len) (h16 : len ≤ 16) (hs : Hid (∀ s ∈ ss, s.size ≤ 9223372036854775807)) (hR : Hid (Reads w ao (ss.map Value.string))) :
    Calls Try.prog 39 #[.slice ao len cap] w fun e w' => e = .returned (.tuple #[.int .u64 (topOf nodeN (leafL ss) : Nat), .int .i64 0]) ∧ Below w.heap.size w w' := by
  have HC := Lib.hid (leaves_good ss len ao cap w hl h0 h16 hs hR)
  have HLL : Hid ((leafL ss).length = len) := by show _ = _; rw [leafL_length, hl]
  have HLT := Lib.hid (leafL_lt hs.out)
  obtain ⟨T, hT⟩ : ∃ T, topOf nodeN (leafL ss) = T := ⟨_, rfl⟩
  have HT := Lib.hid hT
  rw [hT]
  clear hT hl
  go_enter Try.func39, Try.ntmps39
  go_wp2_with fail
  refine HC.out.mono ?_
  rintro e w1 ⟨v, rfl, hown, hb1⟩
  obtain ⟨ao1, cp1, rfl, hR1, _, _⟩ := own_reads hown
  rw [HLL.out]
  have HR1 := Lib.hid hR1
  have HB1 := Lib.hid hb1
  clear hR1 hb1 hown
  go_wp2_with fail
  go_loopw [4] (fun vl wr => ∃ (c : List Nat) (n : Nat) (a : Option Addr) (p : Nat), vl = .slice a n p ∧ Hid (c.length = n) ∧ 1 ≤ n ∧ n ≤ 16 ∧ Hid (topOf nodeN c = T) ∧ Hid (∀ x ∈ c, x < 18446744073709551616) ∧ Hid (Reads wr a (uL c)) ∧ Hid (Below w.heap.size w wr)) (fun vl _ => slen vl)
  case atStart => exact ⟨leafL ss, len, ao1, cp1, rfl, HLL, h0, h16, HT, HLT, HR1, HB1⟩
  case round =>
    obtain ⟨c, n, a, p, rfl, hc, hn1, hn16, ht, hlt, hr, hb⟩ := hrel
    by_cases hn : 1 < n
    · have HU := Lib.hid (tree_up c n a p wr hc.out hn16 hlt hr)
      go_wp2_with fail
      refine HU.out.mono ?_
      rintro e w2 ⟨v, rfl, hown, hb2⟩
      obtain ⟨ao2, cp2, rfl, hR2, _, _⟩ := own_reads hown
      have hlen : (upL nodeN c).length = (n + 1) / 2 := by rw [upL_length, hc.out]
      rw [hlen]
      have HLEN := Lib.hid hlen
      clear hlen hown
      have HR2 := Lib.hid hR2
      have HB2 := Lib.hid (hb.out.trans (Below.mono hb2 hb.out.size))
      clear hR2 hb2
      go_wp2_with fail
      go_roundw
      case rel => exact ⟨upL nodeN c, (n + 1) / 2, ao2, cp2, rfl, HLEN, by omega, by omega, Lib.hid (by have := topOf_up nodeN (l := c) (by rw [hc.out]; omega) (by rw [hc.out]; omega); rw [this]; exact ht.out), Lib.hid (upL_all nodeN_lt c hlt.out), HR2, HB2⟩
      case measure => simp [slen]; omega
    · obtain rfl : n = 1 := by omega
      obtain ⟨x, hx⟩ : ∃ x, c = [x] := List.length_eq_one_iff.1 hc.out
      have htx : Hid (T = x) := by show _ = _; rw [← ht.out, hx]; exact topOf_one nodeN x
      obtain ⟨b, o, rfl, cx⟩ := hr.out 0 (.int .u64 (x : Int)) (by rw [hx]; rfl)
      clear hx
      rw [Nat.add_zero] at cx
      have htx2 := htx.out
      subst htx2
      go_wp2_with fail
      go_ret2
      exact ⟨rfl, hb.out⟩
end Go.Proofs.Ytkincmkmkfiglaa
