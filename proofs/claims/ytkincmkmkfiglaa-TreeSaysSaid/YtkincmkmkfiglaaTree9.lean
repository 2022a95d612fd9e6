/- Contract of the reference's TopOf. -/
import Derived.Test.YtkincmkmkfiglaaRows
import Derived.Test.YtkincmkmkfiglaaTree8
import Derived.Deep.QuietTactic
import Derived.BigQuiet
namespace Go.Proofs.Ytkincmkmkfiglaa
open Go.RowKit

theorem quiet_hereA {P : Program} {f : FuncId} {args : Array Value} {w : World} {a n : Nat} {v : Value}
    (h : ∀ m, Calls P f args (w.drewN m) fun e w' => e = .returned v ∧ ∃ q, w' = (w.drewN m).drewN q) :
    Calls P f args (w.drewN (a + n)) fun e w'' => e = .returned v ∧ ∃ m, w'' = w.drewN (a + m) :=
  (h _).mono fun _ _ ⟨he, m, hm⟩ => ⟨he, n + m, by rw [hm, World.drewN_drewN, Nat.add_assoc]⟩
theorem quiet_here {P : Program} {f : FuncId} {args : Array Value} {w : World} {n : Nat} {v : Value}
    (h : ∀ m, Calls P f args (w.drewN m) fun e w' => e = .returned v ∧ ∃ q, w' = (w.drewN m).drewN q) :
    Calls P f args (w.drewN n) fun e w'' => e = .returned v ∧ ∃ m, w'' = w.drewN m :=
  (h _).mono fun _ _ ⟨he, m, hm⟩ => ⟨he, n + m, by rw [hm, World.drewN_drewN]⟩
theorem leafL_take (ss : List ByteArray) (k : Nat) : leafL (ss.take k) = (leafL ss).take k := List.map_take
theorem leafL_drop (ss : List ByteArray) (k : Nat) : leafL (ss.drop k) = (leafL ss).drop k := List.map_drop
theorem Reads.take {w : World} {a : Option Addr} {xs : List Value} (h : Reads w a xs) (k : Nat) : Reads w a (xs.take k) := by
  intro j u hu
  rw [List.getElem?_take] at hu
  split at hu
  · exact h j u hu
  · cases hu
theorem Reads.from {w : World} {b o : Nat} {xs : List Value} (h : Reads w (some ⟨b, o, none⟩) xs) (k : Nat) : Reads w (some ⟨b, o + k, none⟩) (xs.drop k) := by
  intro j u hu
  rw [List.getElem?_drop] at hu
  obtain ⟨b2, o2, h3, h4⟩ := h (k + j) u hu
  cases h3
  exact ⟨b, o + k, rfl, by rw [← h4]; congr 2; omega⟩
theorem split_bd {n : Nat} (h : 2 ≤ n) : 1 ≤ splitN n ∧ splitN n < n := by
  obtain ⟨j, h1, h2⟩ := find_pow h
  rw [splitN_eq h1 h2]
  have hpos : 0 < 2 ^ j := Nat.pow_pos (by omega)
  omega
theorem topF_all {node : Nat → Nat → Nat} {p : Nat → Prop} (hn : ∀ a b, p (node a b)) (h0 : p 0) : ∀ (f : Nat) (l : List Nat), (∀ x ∈ l, p x) → p (topF node f l)
  | 0, _, _ => h0
  | f + 1, l, h => by
    unfold topF
    split
    · cases l with
      | nil => exact h0
      | cons a l => exact h a (by simp)
    · exact hn _ _
theorem topF_lt (f : Nat) (l : List Nat) (h : ∀ x ∈ l, x < 18446744073709551616) : topF nodeN f l < 18446744073709551616 :=
  topF_all (p := fun x => x < 18446744073709551616) nodeN_lt (by omega) f l h
set_option maxRecDepth 20000 in
set_option maxHeartbeats 1000000 in
theorem ref_TopOf : ∀ (f : Nat) (ss : List ByteArray) (len : Nat) (ao : Option Addr) (cap : Nat) (w : World), ss.length = len → 1 ≤ len → len ≤ 16 → len ≤ f → len ≤ cap → cap ≤ 9223372036854775807 →
    Hid (∀ s ∈ ss, s.size ≤ 9223372036854775807) → Hid (Reads w ao (ss.map Value.string)) →
    Calls Try.prog 46 #[.slice ao len cap] w fun e w' => e = .returned (.int .u64 (topF nodeN f (leafL ss) : Nat)) ∧ ∃ q, w' = w.drewN q := by
  intro f
  induction f with
  | zero => intro ss len ao cap w _ h1 _ h2; omega
  | succ f ih =>
    intro ss len ao cap w hl h1 h16 hf hc hc63 hs hR
    obtain ⟨s0, hs0⟩ : ∃ s, ss[0]? = some s := ⟨ss[0]'(by omega), List.getElem?_eq_getElem _⟩
    obtain ⟨b, o, rfl, c0⟩ := hR.out 0 (.string s0) (by rw [List.getElem?_map, hs0]; rfl)
    rw [Nat.add_zero] at c0
    by_cases hlen : len = 1
    · subst hlen
      have ht : topF nodeN (f + 1) (leafL ss) = leafN s0 := by
        simp only [topF]
        rw [if_pos (by rw [leafL_length, hl]; exact Nat.le_refl _), List.getD_eq_getElem?_getD, leafL_get hs0, Option.getD_some]
      rw [ht]
      have HC := Lib.hid (ref_LeafOf s0 w (hs.out s0 (List.mem_of_getElem? hs0)))
      clear ht ih
      go_enter Try.func46, Try.ntmps46
      go_wp2_with fail
      refine HC.out.mono ?_
      rintro e w' ⟨rfl, rfl⟩
      go_wp2_with fail
      go_ret
      exact ⟨rfl, 0, rfl⟩
    · have hbd := split_bd (n := len) (by omega)
      have HS := Lib.hid (ref_split len w (by omega) h16)
      have ht : topF nodeN (f + 1) (leafL ss) = nodeN (topF nodeN f (leafL (ss.take (splitN len)))) (topF nodeN f (leafL (ss.drop (splitN len)))) := by
        rw [leafL_take, leafL_drop]
        conv => lhs; simp only [topF]
        rw [if_neg (by rw [leafL_length, hl]; omega), leafL_length, hl]
      rw [ht]
      obtain ⟨k, hk⟩ : ∃ k, splitN len = k := ⟨_, rfl⟩
      rw [hk] at hbd HS ⊢
      have HA := Lib.hid fun m => ih (ss.take k) k (some ⟨b, o, none⟩) cap (w.drewN m) (by rw [List.length_take]; omega) (by omega) (by omega) (by omega) (by omega) hc63 (Lib.hid fun s h => hs.out s (List.mem_of_mem_take h)) (Lib.hid (by rw [List.map_take]; exact hR.out.take k))
      have HB := Lib.hid fun m => ih (ss.drop k) (len - k) (some ⟨b, o + k, none⟩) (cap - k) (w.drewN m) (by rw [List.length_drop]; omega) (by omega) (by omega) (by omega) (by omega) (by omega) (Lib.hid fun s h => hs.out s (List.mem_of_mem_drop h)) (Lib.hid (by rw [List.map_drop]; exact hR.out.from k))
      have ha := topF_lt f (leafL (ss.take k)) (leafL_lt fun s h => hs.out s (List.mem_of_mem_take h))
      have hb := topF_lt f (leafL (ss.drop k)) (leafL_lt fun s h => hs.out s (List.mem_of_mem_drop h))
      obtain ⟨x, hx⟩ : ∃ x, topF nodeN f (leafL (ss.take k)) = x := ⟨_, rfl⟩
      obtain ⟨y, hy⟩ : ∃ y, topF nodeN f (leafL (ss.drop k)) = y := ⟨_, rfl⟩
      rw [hx] at HA ha ⊢
      rw [hy] at HB hb ⊢
      have HN : Hid (∀ W : World, Calls Try.prog 45 #[.int .u64 x, .int .u64 y] W fun e w' => e = .returned (.int .u64 (nodeN x y : Nat)) ∧ ∃ m, w' = W.drewN m) := Lib.hid fun W => (ref_NodeOf x y W ha hb).mono fun e w' h => ⟨h.1, 0, h.2.symm⟩
      obtain ⟨t, htt⟩ : ∃ t, nodeN x y = t := ⟨_, rfl⟩
      rw [htt] at HN ⊢
      clear ht hk hx hy htt ih hs0
      go_enter Try.func46, Try.ntmps46
      go_wp2_with fail
      refine HS.out.mono ?_
      rintro e w' ⟨rfl, rfl⟩
      go_wp2_with fail
      go_quiet ((first | (go_at_call 46; first | with_reducible exact quiet_here HA.out | with_reducible exact quiet_hereA HA.out | with_reducible exact quiet_here HB.out | with_reducible exact quiet_hereA HB.out | fail) | (go_at_call 45; first | with_reducible exact quiet_on HN.out | with_reducible exact quiet_at HN.out | fail) | fail))
      all_goals
        go_wp2_with fail
        go_ret
        exact ⟨rfl, _, rfl⟩
end Go.Proofs.Ytkincmkmkfiglaa
