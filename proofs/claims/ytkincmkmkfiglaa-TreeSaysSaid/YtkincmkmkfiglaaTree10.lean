/- Contract of the reference's WayOf. -/
import Derived.Test.YtkincmkmkfiglaaRows
import Derived.Test.YtkincmkmkfiglaaTree9
namespace Go.Proofs.Ytkincmkmkfiglaa
open Go.RowKit

theorem wayF_len {node : Nat → Nat → Nat} : ∀ (f : Nat) (l : List Nat) (k : Nat), (wayF node f l k).length ≤ f
  | 0, _, _ => Nat.le_refl _
  | f + 1, l, k => by
    unfold wayF
    split
    · simp
    · split
      · rw [List.length_append, List.length_singleton]; have := wayF_len (node := node) f (l.take (splitN l.length)) k; omega
      · rw [List.length_append, List.length_singleton]; have := wayF_len (node := node) f (l.drop (splitN l.length)) (k - splitN l.length); omega
set_option maxRecDepth 20000 in
set_option maxHeartbeats 2000000 in
theorem ref_WayOf : ∀ (f : Nat) (ss : List ByteArray) (len : Nat) (ao : Option Addr) (cap k : Nat) (w : World), f ≤ 16 → ss.length = len → 1 ≤ len → len ≤ f → len ≤ cap → cap ≤ 9223372036854775807 → k < len →
    Hid (∀ s ∈ ss, s.size ≤ 9223372036854775807) → Hid (Reads w ao (ss.map Value.string)) →
    Calls Try.prog 48 #[.slice ao len cap, .int .i64 k] w (RowU (wayF nodeN f (leafL ss) k) w) := by
  intro f
  induction f with
  | zero => intro ss len ao cap k w _ _ h1 h2; omega
  | succ f ih =>
    intro ss len ao cap k w h16 hl h1 hf hc hc63 hkl hs hR
    obtain ⟨s0, hs0⟩ : ∃ s, ss[0]? = some s := ⟨ss[0]'(by omega), List.getElem?_eq_getElem _⟩
    obtain ⟨b, o, rfl, _⟩ := hR.out 0 (.string s0) (by rw [List.getElem?_map, hs0]; rfl)
    by_cases hlen : len = 1
    · subst hlen
      have ht : wayF nodeN (f + 1) (leafL ss) k = [] := by
        simp only [wayF]
        rw [if_pos (by rw [leafL_length, hl]; exact Nat.le_refl _)]
      rw [ht]
      have hfin : Hid (RowU [] w (.returned (.slice none 0 0)) w) := ⟨_, rfl, World.ownsRow_nil _ _ _ _, Below.refl _ _⟩
      clear ht ih
      go_enter Try.func48, Try.ntmps48
      go_wp2_with fail
      go_ret
      exact hfin.out
    · have hbd := split_bd (n := len) (by omega)
      have HS := Lib.hid (ref_split len w (by omega) (by omega))
      have ht : wayF nodeN (f + 1) (leafL ss) k = if k < splitN len then wayF nodeN f (leafL (ss.take (splitN len))) k ++ [topF nodeN f (leafL (ss.drop (splitN len)))]
          else wayF nodeN f (leafL (ss.drop (splitN len))) (k - splitN len) ++ [topF nodeN f (leafL (ss.take (splitN len)))] := by
        rw [leafL_take, leafL_drop]
        conv => lhs; simp only [wayF]
        rw [if_neg (by rw [leafL_length, hl]; omega), leafL_length, hl]
      rw [ht]
      obtain ⟨m, hk⟩ : ∃ k, splitN len = k := ⟨_, rfl⟩
      rw [hk] at hbd HS ⊢
      have HT1 := Lib.hid fun X (hX : Below w.heap.size w X) => ref_TopOf f (ss.take m) m (some ⟨b, o, none⟩) cap X (by rw [List.length_take]; omega) (by omega) (by omega) (by omega) (by omega) hc63 (Lib.hid fun s h => hs.out s (List.mem_of_mem_take h)) (Lib.hid (by rw [List.map_take]; exact (hR.out.below hX).take m))
      have HT2 := Lib.hid fun X (hX : Below w.heap.size w X) => ref_TopOf f (ss.drop m) (len - m) (some ⟨b, o + m, none⟩) (cap - m) X (by rw [List.length_drop]; omega) (by omega) (by omega) (by omega) (by omega) (by omega) (Lib.hid fun s h => hs.out s (List.mem_of_mem_drop h)) (Lib.hid (by rw [List.map_drop]; exact (hR.out.below hX).from m))
      obtain ⟨x, hx⟩ : ∃ x, topF nodeN f (leafL (ss.take m)) = x := ⟨_, rfl⟩
      obtain ⟨y, hy⟩ : ∃ y, topF nodeN f (leafL (ss.drop m)) = y := ⟨_, rfl⟩
      rw [hx] at HT1 ⊢
      rw [hy] at HT2 ⊢
      have b1 : (m : Int) ≤ (cap : Int) := by omega
      have b2 : m ≤ cap := by omega
      have b3 : (m : Int) ≤ (len : Int) := by omega
      have b4 : m ≤ len := by omega
      have b5 : ¬ cap = m := by omega
      have b6 : (len : Int) ≤ (cap : Int) := by omega
      have b7 : ¬ cap - m = 0 := by omega
      by_cases hkm : k < m
      · rw [if_pos hkm]
        have HA : Hid (∀ X, Below w.heap.size w X → Calls Try.prog 48 #[.slice (some ⟨b, o, none⟩) m cap, .int .i64 k] X (RowU (wayF nodeN f (leafL (ss.take m)) k) w)) := Lib.hid fun X hX =>
          (ih (ss.take m) m (some ⟨b, o, none⟩) cap k X (by omega) (by rw [List.length_take]; omega) (by omega) (by omega) (by omega) hc63 hkm (Lib.hid fun s h => hs.out s (List.mem_of_mem_take h)) (Lib.hid (by rw [List.map_take]; exact (hR.out.below hX).take m))).mono
            fun e w' h => by obtain ⟨v, h1, h2, h3⟩ := h; exact ⟨v, h1, own_mono h2 hX.size, hX.trans (Below.mono h3 hX.size)⟩
        have hwl := wayF_len (node := nodeN) f (leafL (ss.take m)) k
        obtain ⟨A, hA⟩ : ∃ A, wayF nodeN f (leafL (ss.take m)) k = A := ⟨_, rfl⟩
        rw [hA] at HA hwl ⊢
        obtain ⟨L, hL⟩ : ∃ L, A.length = L := ⟨_, rfl⟩
        have HLL := Lib.hid hL
        rw [hL] at hwl
        have hm1 : Hid (L + 1 ≤ maxLen) := Lib.hid (by unfold maxLen; omega)
        have hm2 : Hid ((L + 1) * 8 ≤ 140737488355328) := Lib.hid (by omega)
        clear ht hk hx hy ih hs0 hA hL HT1
        go_enter Try.func48, Try.ntmps48
        go_wp2_with fail
        refine HS.out.mono ?_
        rintro e w' ⟨rfl, rfl⟩
        go_wp2_with fail
        go_region_law (first
          | (go_simp; go_at_call 48; (with_reducible refine (HA.out _ ?_).mono ?_); (focus (repeat (first | (with_reducible exact Below.refl _ _) | (with_reducible apply below_drew1) | (with_reducible apply below_drewN) | fail))); rintro e w1 ⟨v1, rfl, hown1, hb1⟩; (rw [HLL.out] at hown1); have HO1 := Lib.hid hown1; have HB1 := Lib.hid hb1; clear hown1 hb1)
          | (go_simp; go_at_call 46; (with_reducible refine (HT2.out _ ?_).mono ?_); (focus (repeat (first | (with_reducible exact HB1.out) | (with_reducible apply below_drew1) | (with_reducible apply below_drewN) | fail))); rintro e w2 ⟨rfl, q2, rfl⟩)
          | (refine step_app_one ?_ (.tmp 19) (.tmp 24) 66 ?_ w.heap.size 65 _ 1 8 Try.underlying66 u64InfoT _ L (uL A) ?_ w1 HO1.out w HB1.out (Nat.le_refl _) ?_ ?_ #[.int .u64 (y : Int)] ?_ ?_ rfl ?_ hm1.out hm2.out ?_; (focus rfl); (focus rfl); (focus rfl); (focus (repeat (first | (with_reducible exact Below.refl _ _) | (with_reducible apply below_drew1) | (with_reducible apply below_drewN) | (with_reducible refine Below.alloc ?_ (by simp; try omega) _) | fail))); rotate_left; (focus rfl); (focus (repeat (first | (with_reducible exact heap_new' _ _ _ (by simp; try omega)) | (with_reducible apply heap_drew) | (with_reducible apply heap_drewN) | (with_reducible apply heap_alloc_old) | fail))); (focus (intro u hu; simp at hu; subst hu; rfl)); intro v2 w2' hown2 hb3)
          | fail)
        all_goals
          have hfin : Hid (RowU (A ++ [y]) w (.returned v2) w2') := ⟨v2, rfl, by rw [uL_snoc, List.length_append, HLL.out]; exact hown2, hb3⟩
          go_wp2_with fail
          go_ret
          exact hfin.out
      · rw [if_neg hkm]
        have HA : Hid (∀ X, Below w.heap.size w X → Calls Try.prog 48 #[.slice (some ⟨b, o + m, none⟩) (len - m) (cap - m), .int .i64 ((k - m : Nat) : Int)] X (RowU (wayF nodeN f (leafL (ss.drop m)) (k - m)) w)) := Lib.hid fun X hX =>
          (ih (ss.drop m) (len - m) (some ⟨b, o + m, none⟩) (cap - m) (k - m) X (by omega) (by rw [List.length_drop]; omega) (by omega) (by omega) (by omega) (by omega) (by omega) (Lib.hid fun s h => hs.out s (List.mem_of_mem_drop h)) (Lib.hid (by rw [List.map_drop]; exact (hR.out.below hX).from m))).mono
            fun e w' h => by obtain ⟨v, h1, h2, h3⟩ := h; exact ⟨v, h1, own_mono h2 hX.size, hX.trans (Below.mono h3 hX.size)⟩
        have hwl := wayF_len (node := nodeN) f (leafL (ss.drop m)) (k - m)
        obtain ⟨A, hA⟩ : ∃ A, wayF nodeN f (leafL (ss.drop m)) (k - m) = A := ⟨_, rfl⟩
        rw [hA] at HA hwl ⊢
        obtain ⟨L, hL⟩ : ∃ L, A.length = L := ⟨_, rfl⟩
        have HLL := Lib.hid hL
        rw [hL] at hwl
        obtain ⟨d, hd⟩ : ∃ d, k - m = d := ⟨_, rfl⟩
        rw [hd] at HA
        have wd : IntKind.i64.wrap ((k : Int) - m) = (d : Int) := by rw [show (k : Int) - m = (d : Int) by omega]; exact IntWalk.i64_in _ (by omega)
        have hm1 : Hid (L + 1 ≤ maxLen) := Lib.hid (by unfold maxLen; omega)
        have hm2 : Hid ((L + 1) * 8 ≤ 140737488355328) := Lib.hid (by omega)
        clear ht hk hx hy ih hs0 hA hL HT2 hd
        go_enter Try.func48, Try.ntmps48
        go_wp2_with fail
        refine HS.out.mono ?_
        rintro e w' ⟨rfl, rfl⟩
        go_wp2_with fail
        go_region_law (first
          | (go_simp; go_at_call 48; (with_reducible refine (HA.out _ ?_).mono ?_); (focus (repeat (first | (with_reducible exact Below.refl _ _) | (with_reducible apply below_drew1) | (with_reducible apply below_drewN) | fail))); rintro e w1 ⟨v1, rfl, hown1, hb1⟩; (rw [HLL.out] at hown1); have HO1 := Lib.hid hown1; have HB1 := Lib.hid hb1; clear hown1 hb1)
          | (go_simp; go_at_call 46; (with_reducible refine (HT1.out _ ?_).mono ?_); (focus (repeat (first | (with_reducible exact HB1.out) | (with_reducible apply below_drew1) | (with_reducible apply below_drewN) | fail))); rintro e w2 ⟨rfl, q2, rfl⟩)
          | (refine step_app_one ?_ (.tmp 32) (.tmp 37) 66 ?_ w.heap.size 65 _ 1 8 Try.underlying66 u64InfoT _ L (uL A) ?_ w1 HO1.out w HB1.out (Nat.le_refl _) ?_ ?_ #[.int .u64 (x : Int)] ?_ ?_ rfl ?_ hm1.out hm2.out ?_; (focus rfl); (focus rfl); (focus rfl); (focus (repeat (first | (with_reducible exact Below.refl _ _) | (with_reducible apply below_drew1) | (with_reducible apply below_drewN) | (with_reducible refine Below.alloc ?_ (by simp; try omega) _) | fail))); rotate_left; (focus rfl); (focus (repeat (first | (with_reducible exact heap_new' _ _ _ (by simp; try omega)) | (with_reducible apply heap_drew) | (with_reducible apply heap_drewN) | (with_reducible apply heap_alloc_old) | fail))); (focus (intro u hu; simp at hu; subst hu; rfl)); intro v2 w2' hown2 hb3)
          | fail)
        all_goals
          have hfin : Hid (RowU (A ++ [x]) w (.returned v2) w2') := ⟨v2, rfl, by rw [uL_snoc, List.length_append, HLL.out]; exact hown2, hb3⟩
          go_wp2_with fail
          go_ret
          exact hfin.out
end Go.Proofs.Ytkincmkmkfiglaa
