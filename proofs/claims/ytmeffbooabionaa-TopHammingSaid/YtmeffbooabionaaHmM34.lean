/- Sorting by insertion, in plain words: a row is a function of its places. -/
import Derived.Test.YtmeffbooabionaaRow
import Derived.Shelf.SlicesE.Compact
import Derived.Lib.OwnBridge
import Derived.Test.YtmeffbooabionaaRows
import Derived.Test.YtmeffbooabionaaFormK
import Derived.Test.YtmeffbooabionaaSoM
import Derived.Test.YtmeffbooabionaaBase
set_option linter.unusedVariables false
set_option linter.unusedSimpArgs false
namespace Go.Proofs.Ytmeffbooabionaa

/-- The first n places as a list. -/
def rowN (n : Nat) (f : Nat → Nat) : List Nat := (List.range n).map f
theorem rowN_len (n : Nat) (f : Nat → Nat) : (rowN n f).length = n := by simp [rowN]
theorem rowN_get {n : Nat} (f : Nat → Nat) {j : Nat} (h : j < n) : (rowN n f)[j]? = some (f j) := by simp [rowN, h]
theorem rowN_congr {n : Nat} {f g : Nat → Nat} (h : ∀ j, j < n → f j = g j) : rowN n f = rowN n g := List.map_congr_left fun j hj => h j (List.mem_range.1 hj)
/-- Place j + 1 and the one ahead of it change. -/
def swA (f : Nat → Nat) (j : Nat) : Nat → Nat := fun i => if i = j then f (j + 1) else if i = j + 1 then f j else f i
theorem swA_perm {n j : Nat} (f : Nat → Nat) (h : j + 1 < n) : (rowN n (swA f j)).Perm (rowN n f) := by
  obtain ⟨b, rfl⟩ : ∃ b, n = j + 2 + b := ⟨n - (j + 2), by omega⟩
  have split : ∀ g : Nat → Nat, rowN (j + 2 + b) g = (List.range j).map g ++ ([g j, g (j + 1)] ++ (List.range b).map (fun x => g (j + 2 + x))) := by
    intro g
    unfold rowN
    rw [List.range_add, List.map_append, List.range_succ, List.range_succ]
    simp [List.append_assoc, Function.comp_def]
  rw [split, split]
  have h1 : (List.range j).map (swA f j) = (List.range j).map f := List.map_congr_left fun i hi => by
    have := List.mem_range.1 hi
    unfold swA
    rw [if_neg (by omega), if_neg (by omega)]
  have h2 : (List.range b).map (fun x => swA f j (j + 2 + x)) = (List.range b).map (fun x => f (j + 2 + x)) := List.map_congr_left fun i _ => by
    unfold swA
    rw [if_neg (by omega), if_neg (by omega)]
  have h3 : swA f j j = f (j + 1) := by unfold swA; rw [if_pos rfl]
  have h4 : swA f j (j + 1) = f j := by unfold swA; rw [if_neg (by omega), if_pos rfl]
  rw [h1, h2, h3, h4]
  exact List.Perm.append_left _ (List.Perm.append_right _ (List.Perm.swap _ _ _))
/-- The first i + 1 places are in order, but for place j, which is looked at against those behind it alone. -/
def InsO (f : Nat → Nat) (i j : Nat) : Prop := ∀ p q, p < q → q ≤ i → q ≠ j → f p ≤ f q
def SrtN (f : Nat → Nat) (n : Nat) : Prop := ∀ p q, p < q → q < n → f p ≤ f q
theorem SrtN.ins {f : Nat → Nat} {i : Nat} (h : SrtN f i) : InsO f i i := fun p q h1 h2 h3 => h p q h1 (by omega)
theorem InsO.done0 {f : Nat → Nat} {i : Nat} (h : InsO f i 0) : SrtN f (i + 1) := fun p q h1 h2 => h p q h1 (by omega) (by omega)
theorem InsO.done {f : Nat → Nat} {i j : Nat} (h : InsO f i (j + 1)) (hj : f j ≤ f (j + 1)) : SrtN f (i + 1) := by
  intro p q h1 h2
  by_cases hq : q = j + 1
  · subst hq
    by_cases hp : p = j
    · subst hp; exact hj
    · exact Nat.le_trans (h p j (by omega) (by omega) (by omega)) hj
  · exact h p q h1 (by omega) hq
theorem InsO.step {f : Nat → Nat} {i j : Nat} (h : InsO f i (j + 1)) (hi : j + 1 ≤ i) (hj : f (j + 1) < f j) : InsO (swA f j) i j := by
  intro p q h1 h2 h3
  unfold swA
  by_cases hq : q = j + 1
  · subst hq
    rw [if_neg (show ¬ j + 1 = j by omega), if_pos rfl]
    by_cases hp : p = j
    · rw [if_pos hp]; omega
    · rw [if_neg hp, if_neg (by omega)]; exact h p j (by omega) (by omega) (by omega)
  · rw [if_neg h3, if_neg hq]
    by_cases hp : p = j
    · rw [if_pos hp]; exact h (j + 1) q (by omega) h2 hq
    · rw [if_neg hp]
      by_cases hp2 : p = j + 1
      · rw [if_pos hp2]; exact h j q (by omega) h2 hq
      · rw [if_neg hp2]; exact h p q h1 h2 hq
theorem swA_pos (f : Nat → Nat) (j : Nat) : swA f j = fun i => if i = j then f (j + 1) else if i = j + 1 then f j else f i := rfl
end Go.Proofs.Ytmeffbooabionaa
namespace Go.Proofs.Ytmeffbooabionaa
open Go.RowKit

def compu16_ren : Go.Shelf.Ren := ⟨fun | 43 => 39 | n => n, fun | 22 => 22 | 23 => 29 | 3 => 3 | 4 => 4 | 0 => 0 | n => n, fun | n => n⟩
theorem compu16 : Go.Proofs.SlLaysE.n43 Try.prog compu16_ren := {
  mixed := by kernel_rfl
  f43 := ⟨Try.f39.name, by decide, Try.func39.trans (congrArg some (by kernel_rfl))⟩
  t0 := Try.underlying0
  a0 := Try.isAgg0
  z0 := Try.sizeOf0
  v0 := Try.zeroValue0
  t3 := Try.underlying3
  a3 := Try.isAgg3
  z3 := Try.sizeOf3
  v3 := Try.zeroValue3
  t4 := Try.underlying4
  a4 := Try.isAgg4
  z4 := Try.sizeOf4
  v4 := Try.zeroValue4
  t22 := Try.underlying22
  a22 := Try.isAgg22
  z22 := Try.sizeOf22
  v22 := Try.zeroValue22
  a23 := Try.isAgg29
  z23 := Try.sizeOf29 }
/-- Neighbours that are alike are let go. -/
def cmpL (zs : List Int) : List Int := Lib.compactUpTo zs.toArray zs.length
theorem cmpL_len (zs : List Int) : (cmpL zs).length ≤ zs.length := by
  unfold cmpL Lib.compactUpTo
  rw [List.length_map]
  exact Nat.le_trans (List.length_filter_le _ _) (by simp)
theorem compact_u16 (zs : List Int) (n base g cap : Nat) (w : World) (hO : w.ownsRow base 29 1 (.slice (some ⟨g, 0, none⟩) n cap) n (zs.map (Value.int .u16))) :
    Calls Try.prog 39 #[.slice (some ⟨g, 0, none⟩) n cap] w fun e w' => e = .returned (.slice (some ⟨g, 0, none⟩) (cmpL zs).length cap) ∧ w'.ownsRow base 29 1 (.slice (some ⟨g, 0, none⟩) (cmpL zs).length cap) (cmpL zs).length ((cmpL zs).map (Value.int .u16)) ∧ w.grownBy w' (some g) := by
  obtain ⟨g', cap', hv, hb, hlt, hn, hm, hl, hH⟩ := Lib.holds_of_ownsRow hO (by intro h; cases h)
  cases hv
  have hsz : zs.toArray.size = n := by simpa using hl
  have h := AnyE.slices_Compact compu16 (Value.int .u16) (fun _ => rfl) (EqlAt.intD _ _ _) (NeqAt.intD _ _ _) 0 (fun w => by first | exact Try.zeroValue29 w | (rw [Try.zeroValue29]; rfl)) g 0 cap zs.toArray w hH (by rw [hsz]; unfold maxLen at hm; omega) (by omega)
  rw [hsz] at h
  have e1 : Lib.compactUpTo zs.toArray n = cmpL zs := by unfold cmpL; rw [hl]
  have hle := cmpL_len zs
  rw [e1] at h
  refine h.mono ?_
  rintro e w' ⟨rfl, q, rfl⟩
  refine ⟨rfl, ?_, ?_⟩
  · have h2 := Lib.ownsRow_putRow (q := q) (ys := cmpL zs ++ List.replicate (n - (cmpL zs).length) 0) (k := (cmpL zs).length) hO (by rw [List.length_append, List.length_replicate]; omega) (by omega)
    rw [List.take_left' rfl] at h2
    exact h2
  · have hb := Lib.below_putRow (q := q) (enc := Value.int .u16) (d := (cmpL zs ++ List.replicate (n - (cmpL zs).length) 0).toArray) (Below.refl g w) (Nat.le_refl g)
    refine ⟨hb.os, hb.tape, hb.output, hb.size, fun k hk hne => ?_⟩
    have : g ≠ k := fun e => hne (by rw [e])
    simp [Sort.putRow, Sort.mapBlock, Sort.ahead, Array.getElem?_modify, this]
end Go.Proofs.Ytmeffbooabionaa
namespace Go.Proofs.Ytmeffbooabionaa

/-- All sums of words, in the order in which they come up. -/
def allX (l : List Nat) : List Nat := l.foldl (fun out g => out ++ out.map (· ^^^ g)) [0]
theorem allX_nil : allX [] = [0] := rfl
theorem allX_append (l : List Nat) (g : Nat) : allX (l ++ [g]) = allX l ++ (allX l).map (· ^^^ g) := by unfold allX; rw [List.foldl_append]; rfl
theorem snoc_ind {P : List Nat → Prop} (h0 : P []) (h1 : ∀ l g, P l → P (l ++ [g])) (l : List Nat) : P l := by
  rw [← l.reverse_reverse]
  induction l.reverse with
  | nil => exact h0
  | cons a t ih => rw [List.reverse_cons]; exact h1 _ _ ih
theorem allX_len (l : List Nat) : (allX l).length = 2 ^ l.length := by
  refine snoc_ind (P := fun l => (allX l).length = 2 ^ l.length) rfl (fun l g ih => ?_) l
  rw [allX_append, List.length_append, List.length_map, ih, List.length_append, List.length_singleton, Nat.pow_succ]; omega
/-- Neighbours that are alike are let go. -/
def cmpN (l : List Nat) : List Nat := Lib.compactUpTo l.toArray l.length
theorem getD_map (l : List Nat) (j : Nat) : ((l.map fun x : Nat => (x : Int)).toArray)[j]! = ((l.toArray)[j]! : Int) := by
  by_cases hj : j < l.length
  · simp [hj]
  · simp [hj]
theorem cmpL_cast (l : List Nat) : cmpL (l.map fun x : Nat => (x : Int)) = (cmpN l).map fun x : Nat => (x : Int) := by
  unfold cmpL cmpN Lib.compactUpTo
  rw [List.length_map, List.map_map]
  have hk : ∀ j, Lib.keeps (l.map fun x : Nat => (x : Int)).toArray j = Lib.keeps l.toArray j := by
    intro j
    unfold Lib.keeps
    rw [getD_map, getD_map]
    by_cases h0 : j = 0
    · simp [h0]
    · by_cases h1 : l.toArray[j]! = l.toArray[j - 1]!
      · simp [h0, h1]
      · have h2 : ((l.toArray[j]! : Nat) : Int) ≠ ((l.toArray[j - 1]! : Nat) : Int) := by omega
        simp only [h0, h1, h2, ne_eq, not_false_eq_true, or_true, decide_true]
  rw [List.filter_congr (fun j _ => hk j)]
  exact List.map_congr_left fun j _ => getD_map l j
theorem cmpN_len (l : List Nat) : (cmpN l).length ≤ l.length := by
  unfold cmpN Lib.compactUpTo
  rw [List.length_map]
  exact Nat.le_trans (List.length_filter_le _ _) (by simp)
theorem get_nat (l : List Nat) {j : Nat} (hj : j < l.length) : l.toArray[j]! = l[j] := by simp [hj]
theorem mem_cmpN (l : List Nat) (x : Nat) : x ∈ cmpN l ↔ x ∈ l := by
  unfold cmpN Lib.compactUpTo
  constructor
  · intro h
    obtain ⟨j, hj, rfl⟩ := List.mem_map.1 h
    have hj2 := List.mem_range.1 (List.mem_filter.1 hj).1
    show l.toArray[j]! ∈ l
    rw [get_nat l hj2]
    exact List.getElem_mem _
  · intro h
    obtain ⟨j, hj⟩ := List.getElem?_of_mem h
    have key : ∀ j : Nat, l[j]? = some x → ∃ i, i < l.length ∧ Lib.keeps l.toArray i = true ∧ l.toArray[i]! = x := by
      intro j
      induction j with
      | zero =>
        intro hj
        obtain ⟨h1, h2⟩ := List.getElem?_eq_some_iff.1 hj
        exact ⟨0, h1, by simp [Lib.keeps], by rw [get_nat l h1]; exact h2⟩
      | succ j ih =>
        intro hj
        obtain ⟨h1, h2⟩ := List.getElem?_eq_some_iff.1 hj
        by_cases he : l.toArray[j + 1]! = l.toArray[j]!
        · apply ih
          rw [get_nat l h1, get_nat l (by omega)] at he
          rw [List.getElem?_eq_getElem (by omega), ← he, h2]
        · exact ⟨j + 1, h1, by unfold Lib.keeps; simp only [Nat.add_sub_cancel]; exact decide_eq_true (.inr he), by rw [get_nat l h1]; exact h2⟩
    obtain ⟨i, h1, h2, h3⟩ := key j hj
    exact List.mem_map.2 ⟨i, List.mem_filter.2 ⟨List.mem_range.2 h1, h2⟩, h3⟩
theorem cmpN_strict {l : List Nat} (h : l.Pairwise (· ≤ ·)) : (cmpN l).Pairwise (· < ·) := by
  unfold cmpN Lib.compactUpTo
  rw [List.pairwise_map]
  have hr : ((List.range l.length).filter (Lib.keeps l.toArray)).Pairwise (fun i j => i < j ∧ j < l.length ∧ Lib.keeps l.toArray j = true) := by
    have h1 : ((List.range l.length).filter (Lib.keeps l.toArray)).Pairwise (· < ·) := List.Pairwise.filter _ (List.pairwise_lt_range)
    rw [List.pairwise_iff_forall_sublist] at h1 ⊢
    intro i j hij
    have hm : j ∈ (List.range l.length).filter (Lib.keeps l.toArray) := hij.subset (by simp)
    exact ⟨h1 hij, List.mem_range.1 (List.mem_filter.1 hm).1, (List.mem_filter.1 hm).2⟩
  refine hr.imp ?_
  rintro i j ⟨h1, h2, h3⟩
  show l.toArray[i]! < l.toArray[j]!
  have h4 : l.toArray[j]! ≠ l.toArray[j - 1]! := by
    unfold Lib.keeps at h3
    have := of_decide_eq_true h3
    rcases this with h | h
    · omega
    · exact h
  rw [get_nat l h2, get_nat l (show j - 1 < l.length by omega)] at h4
  rw [get_nat l h2, get_nat l (show i < l.length by omega)]
  have le1 : l[j - 1]'(by omega) ≤ l[j] := by
    rcases Nat.lt_or_ge (j - 1) j with h5 | h5
    · exact (List.pairwise_iff_getElem.1 h) (j - 1) j (by omega) h2 (by omega)
    · omega
  have le2 : l[i]'(by omega) ≤ l[j - 1]'(by omega) := by
    by_cases he : i = j - 1
    · subst he; exact Nat.le_refl _
    · exact (List.pairwise_iff_getElem.1 h) i (j - 1) (by omega) (by omega) (by omega)
  omega
/-- The words of a code. -/
def wordsL (l : List Nat) : List Nat := cmpN (srtU (allX l))
theorem mem_wordsL (l : List Nat) (x : Nat) : x ∈ wordsL l ↔ x ∈ allX l := by unfold wordsL; rw [mem_cmpN]; exact (srtU_perm _).mem_iff
theorem wordsL_strict (l : List Nat) : (wordsL l).Pairwise (· < ·) := cmpN_strict (srtU_sorted _)
theorem wordsL_len (l : List Nat) : (wordsL l).length ≤ 2 ^ l.length := by unfold wordsL; refine Nat.le_trans (cmpN_len _) ?_; rw [srtU_len, allX_len]; exact Nat.le_refl _
theorem allX_lt {l : List Nat} {n : Nat} (h : ∀ g ∈ l, g < 2 ^ n) : ∀ x ∈ allX l, x < 2 ^ n := by
  revert h
  refine snoc_ind (P := fun l => (∀ g ∈ l, g < 2 ^ n) → ∀ x ∈ allX l, x < 2 ^ n) (fun _ x hx => ?_) (fun l g ih h x hx => ?_) l
  · simp [allX_nil] at hx; subst hx; exact Nat.two_pow_pos _
  · rw [allX_append, List.mem_append] at hx
    have ih' := ih (fun y hy => h y (by simp [hy]))
    rcases hx with hx | hx
    · exact ih' x hx
    · obtain ⟨y, hy, rfl⟩ := List.mem_map.1 hx
      exact Nat.xor_lt_two_pow (ih' y hy) (h g (by simp))
end Go.Proofs.Ytmeffbooabionaa
namespace Go.Proofs.Ytmeffbooabionaa
open Go.RowKit

theorem u16Info : ElemRow Try.prog 29 (.int .u16 0) 1 2 := elemRow_of (by kernel_rfl) rfl (by omega)
def ClonePostU (base : Nat) (xs : List Value) (n : Nat) (w : World) (e : Ending) (w' : World) : Prop :=
  ∃ v, e = .returned v ∧ w'.ownsRow base 29 1 v n xs ∧ Below base w w'
set_option maxHeartbeats 1000000 in
set_option maxRecDepth 20000 in
theorem clone_u16 (n : Nat) (xs : List Value) (ao : Option Addr) (cap base : Nat) (w : World) (hn : n ≤ 1000000000) (hl : xs.length = n) (hnone : ao = none → n = 0 ∧ cap = 0) (hR : Hid (Reads w ao xs)) (h1 : Hid (∀ u ∈ xs, u.oneCell' = true)) (hb : base ≤ w.heap.size) :
    Calls Try.prog 68 #[.slice ao n cap] w (ClonePostU base xs n w) := by
  have HL : Hid (xs.length = n * 1) := by show _ = _; omega
  have HN := Lib.hid hnone
  cases ao with
  | none =>
    obtain ⟨rfl, rfl⟩ := hnone rfl
    have hx : Hid (xs = []) := List.eq_nil_of_length_eq_zero hl
    have heq := Lib.run_eql_slice_nil (P := Try.prog) w 22 29 none 0 0 0 0 Try.underlying22
    clear hl hnone
    go_enter Try.func68, Try.ntmps68
    go_wp2_with fail
    go_ret
    refine ⟨_, rfl, ?_, Below.refl _ _⟩
    rw [hx.out]; exact World.ownsRow_nil _ _ _ _
  | some a =>
    have heq := Lib.run_eql_slice_nil (P := Try.prog) w 22 29 (some a) n cap 0 0 Try.underlying22
    clear hl hnone
    have hown : Hid ((w.alloc (.cells #[] 29)).ownsRow base 29 1 (.slice (some ⟨w.heap.size, 0, none⟩) 0 0) 0 []) := own_lit w base 29 [] hb (by unfold maxLen; simp)
    have hR2 : Hid (Reads (w.alloc (.cells #[] 29)) (some a) xs) := hR.out.alloc _
    have hbel : Hid (Below base w (w.alloc (.cells #[] 29))) := (Below.refl _ _).alloc hb _
    go_enter Try.func68, Try.ntmps68
    go_wp2_with (at_builtin; go_must (refine app_all rfl (.tmp 5) (.tmp 6) _ rfl base 29 _ 1 2 Try.underlying22 u16Info _ 0 [] (by rfl) hown.out (some a) n cap xs (by rfl) (fun h => by cases h) HL.out hR2.out h1.out (by unfold maxLen; omega) (by omega) (Nat.le_trans hb hbel.out.size) ?_); intro v2 w2 hown2 hgr2 hb2)
    go_ret
    refine ⟨v2, rfl, ?_, hbel.out.trans hb2⟩
    simpa using hown2
end Go.Proofs.Ytmeffbooabionaa
namespace Go.Proofs.Ytmeffbooabionaa
open Go.RowKit

theorem clip_u16 (ao : Option Addr) (n cap : Nat) (w : World) (h63 : cap ≤ 9223372036854775807) (hc : n ≤ cap) :
    Calls Try.prog 64 #[.slice ao n cap] w fun e w' => e = .returned (.slice ao n n) ∧ w' = w := by
  go_enter Try.func64, Try.ntmps64
  go_wp2_with fail
  go_ret
  exact ⟨rfl, rfl⟩
end Go.Proofs.Ytmeffbooabionaa
namespace Go.Proofs.Ytmeffbooabionaa
/-- The ones among the first k bits. -/
def onesF (a : Nat) : Nat → Nat
  | 0 => 0
  | k + 1 => onesF a k + (a / 2 ^ k % 2)
theorem onesF_le (a k : Nat) : onesF a k ≤ k := by
  induction k with
  | zero => simp [onesF]
  | succ k ih => simp only [onesF]; omega
def ones16 (a : Nat) : Nat := onesF a 16
theorem onesF_mod (a : Nat) : ∀ k, k ≤ 8 → onesF a k = onesF (a % 256) k := by
  intro k
  induction k with
  | zero => intro _; rfl
  | succ k ih =>
    intro hk
    simp only [onesF]
    rw [ih (by omega)]
    have h : ∀ j, j < 8 → a / 2 ^ j % 2 = a % 256 / 2 ^ j % 2 := by
      intro j hj
      rcases (by omega : j = 0 ∨ j = 1 ∨ j = 2 ∨ j = 3 ∨ j = 4 ∨ j = 5 ∨ j = 6 ∨ j = 7) with rfl | rfl | rfl | rfl | rfl | rfl | rfl | rfl <;> simp only [Nat.reducePow] <;> omega
    rw [h k (by omega)]
theorem onesF_div (a : Nat) : ∀ k, onesF a (8 + k) = onesF a 8 + onesF (a / 256) k := by
  intro k
  induction k with
  | zero => rfl
  | succ k ih =>
    show onesF a (8 + k) + a / 2 ^ (8 + k) % 2 = _ + (onesF (a / 256) k + _)
    rw [ih, show 2 ^ (8 + k) = 256 * 2 ^ k by rw [Nat.pow_add], ← Nat.div_div_eq_div_mul]; omega
theorem ones16_split (a : Nat) : ones16 a = onesF (a / 256) 8 + onesF (a % 256) 8 := by
  unfold ones16
  rw [show (16 : Nat) = 8 + 8 from rfl, onesF_div a 8, onesF_mod a 8 (by omega)]; omega
end Go.Proofs.Ytmeffbooabionaa
