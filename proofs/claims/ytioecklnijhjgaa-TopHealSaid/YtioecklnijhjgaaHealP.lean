/- TopHeal: what the store holds. Plain. -/
import Derived.Test.YtioecklnijhjgaaHealM
namespace Go.Proofs.Ytioecklnijhjgaa
open Go.RowKit

/-- Every node is up and has its piece of the text, but for node m. -/
structure Semi (n k m : Nat) (text : ByteArray) (st : St) : Prop where
  w1 : st.wr = 1
  up : ∀ i, i < n → st.dn i = false
  kp : ∀ i, i < n → st.kp i 0 = if i = m then [] else [(1, pcs text k i)]
theorem ups_all {n : Nat} {st : St} (h : ∀ i, i < n → st.dn i = false) : ups n st = List.range n := by
  unfold ups pl
  rw [List.filter_eq_self]
  intro i hi
  rw [h i (List.mem_range.1 hi)]
  rfl
theorem newS_ones {n k : Nat} {st : St} {text : ByteArray} (hj : (joinF (rowAt n st 0 1) n (k : Int)).2 = 0) (ht : (joinF (rowAt n st 0 1) n (k : Int)).1 = text) : ∀ (l : List Nat), (∀ a ∈ l, a = 1) → ∀ acc : Best, (acc = (1, text, true) ∨ (l ≠ [] ∧ acc.2.2 = false)) → l.foldl (newS n k st 0) acc = (1, text, true)
  | [], _, acc, h => by
    rcases h with h | h
    · exact h
    · exact absurd rfl h.1
  | a :: t, ha, acc, h => by
    rw [List.foldl_cons]
    have h1 : a = 1 := ha a (by simp)
    subst h1
    refine newS_ones hj ht t (fun x hx => ha x (by simp [hx])) _ (.inl ?_)
    unfold newS
    rcases h with h | h
    · rw [h, if_pos ⟨rfl, Nat.le_refl _⟩]
    · rw [if_neg (by rw [h.2]; simp), if_pos hj, ht]
theorem Semi.row {n k m : Nat} {text : ByteArray} {st : St} (h : Semi n k m text st) (ht : text.size ≤ 60) (hk : 1 ≤ k) (hkn : k + 1 ≤ n) (hn : n ≤ 10) : JoinIs (rowAt n st 0 1) n (k : Int) text 0 := by
  refine join_pieces (H := fun i => decide (i ≠ m)) ht hk (by omega) hn (fun i hi hH => ?_) (fun i hi hH => ?_) ?_
  · unfold rowAt
    have hne : i ≠ m := of_decide_eq_true hH
    rw [listOf_at _ hi, h.up i hi, h.kp i hi]
    simp [pick, hne]
  · unfold rowAt
    have he : i = m := by simpa using hH
    rw [listOf_at _ hi, h.up i hi, h.kp i hi]
    simp [pick, he]
  · have : ∀ q, q ≤ (pl (fun i => decide (i ≠ m)) q).length + (if m < q then 1 else 0) := by
      intro q
      induction q with
      | zero => simp
      | succ q ih =>
        rw [pl_succ]
        by_cases h : q = m
        · subst h
          rw [if_neg (by simp), if_pos (by omega)]
          rw [if_neg (by omega)] at ih
          omega
        · rw [if_pos (by simpa using h), List.length_append, List.length_singleton]
          by_cases h2 : m < q
          · rw [if_pos h2] at ih; rw [if_pos (by omega)]; omega
          · rw [if_neg h2] at ih; omega
    have h2 := this n
    split at h2 <;> omega
theorem Semi.newest {n k m : Nat} {text : ByteArray} {st : St} (h : Semi n k m text st) (ht : text.size ≤ 60) (hk : 1 ≤ k) (hkn : k + 1 ≤ n) (hn : n ≤ 10) : newest n k st 0 = (1, text, true) := by
  obtain ⟨h1, h2⟩ := joinF_eq (h.row ht hk hkn hn)
  unfold Go.Proofs.Ytioecklnijhjgaa.newest
  refine newS_ones h2 h1 _ (fun a ha => ?_) _ (.inr ⟨?_, rfl⟩)
  · obtain ⟨i, hi, hx⟩ := List.mem_flatMap.1 ha
    rw [h.kp i (mem_ups.1 hi).1] at hx
    split at hx
    · simp at hx
    · simpa using hx
  · intro h0
    have hm : (if m = 0 then 1 else 0) ∈ ups n st := by
      rw [ups_all h.up, List.mem_range]
      split <;> omega
    have h3 : 1 ∈ stamps n st 0 := by
      unfold stamps
      rw [List.mem_flatMap]
      refine ⟨_, hm, ?_⟩
      rw [h.kp _ (mem_ups.1 hm).1, if_neg (by split <;> omega)]
      simp
    rw [h0] at h3
    simp at h3
/-- After j nodes. -/
theorem Semi.fix {n k m : Nat} {text : ByteArray} {st : St} (h : Semi n k m text st) : ∀ j, j ≤ n →
    ((List.range j).foldl (fixS k text 1 0) (st, 0)).1.wr = 1 ∧ (∀ i, i < n → ((List.range j).foldl (fixS k text 1 0) (st, 0)).1.dn i = false) ∧
    (∀ i, i < n → ((List.range j).foldl (fixS k text 1 0) (st, 0)).1.kp i 0 = if i < j then [(1, pcs text k i)] else st.kp i 0) ∧ ((List.range j).foldl (fixS k text 1 0) (st, 0)).2 = if m < j then 1 else 0
  | 0, _ => ⟨h.w1, h.up, fun i _ => by rw [if_neg (by omega)]; rfl, by rw [if_neg (by omega)]; rfl⟩
  | j + 1, hj => by
    obtain ⟨h1, h2, h3, h4⟩ := Semi.fix h j (by omega)
    rw [List.range_succ, List.foldl_append]
    obtain ⟨P, hP⟩ : ∃ P, (List.range j).foldl (fixS k text 1 0) (st, 0) = P := ⟨_, rfl⟩
    rw [hP] at h1 h2 h3 h4 ⊢
    show (fixS k text 1 0 P j).1.wr = 1 ∧ (∀ i, i < n → (fixS k text 1 0 P j).1.dn i = false) ∧ (∀ i, i < n → (fixS k text 1 0 P j).1.kp i 0 = _) ∧ (fixS k text 1 0 P j).2 = _
    have hk := h3 j (by omega)
    rw [if_neg (by omega), h.kp j (by omega)] at hk
    refine ⟨h1, h2, fun i hi => ?_, ?_⟩
    · unfold fixS
      by_cases hij : i = j
      · rw [hij, St.set_at, if_pos (by omega), hk]
        unfold fixK
        split
        · rfl
        · simp
      · show (P.1.set j 0 _).kp i 0 = _
        rw [St.set_far _ _ (by omega), h3 i hi]
        by_cases hlt : i < j
        · rw [if_pos hlt, if_pos (by omega)]
        · rw [if_neg hlt, if_neg (by omega)]
    · show P.2 + (if hasK (P.1.kp j 0) 1 (pcs text k j) then 0 else 1) = _
      rw [h4, hk]
      by_cases hjm : j = m
      · have e1 : (if m < j then 1 else 0 : Nat) = 0 := if_neg (by omega)
        have e2 : (if m < j + 1 then 1 else 0 : Nat) = 1 := if_pos (by omega)
        rw [if_pos hjm, e1, e2]
        rfl
      · have hh : hasK [(1, pcs text k j)] 1 (pcs text k j) = true := by simp [hasK]
        rw [if_neg hjm, hh]
        by_cases hm : m < j
        · have e1 : (if m < j then 1 else 0 : Nat) = 1 := if_pos hm
          have e2 : (if m < j + 1 then 1 else 0 : Nat) = 1 := if_pos (by omega)
          rw [e1, e2]; rfl
        · have e1 : (if m < j then 1 else 0 : Nat) = 0 := if_neg hm
          have e2 : (if m < j + 1 then 1 else 0 : Nat) = 0 := if_neg (by omega)
          rw [e1, e2]; rfl
/-- A reading of such a store mends it. -/
theorem Semi.read {n k m wr r : Nat} {text : ByteArray} {st : St} (h : Semi n k m text st) (ht : text.size ≤ 60) (hk : 1 ≤ k) (hkn : k + 1 ≤ n) (hn : n ≤ 10) (hw : wr ≤ n) (hr : r ≤ n) :
    ∃ st2, readF n k wr r st 0 = (st2, ⟨text, 1, if m < n then 1 else 0⟩, 0) ∧ Semi n k n text st2 := by
  obtain ⟨h1, h2, h3, h4⟩ := h.fix n (Nat.le_refl _)
  refine ⟨_, ?_, ⟨h1, h2, fun i hi => by rw [h3 i hi, if_pos hi, if_neg (by omega)]⟩⟩
  unfold readF
  rw [h.newest ht hk hkn hn, ups_all h.up, List.length_range, if_neg (by omega), if_neg (by simp)]
  dsimp only
  rw [h4]
theorem Semi.lose {n k : Nat} {text : ByteArray} {st : St} (h : Semi n k n text st) (m : Nat) : Semi n k m text (st.lose m) :=
  ⟨h.w1, h.up, fun i hi => by
    show (if i = m then [] else st.kp i 0) = _
    by_cases he : i = m
    · rw [if_pos he, if_pos he]
    · rw [if_neg he, if_neg he, h.kp i hi, if_neg (by omega)]⟩
theorem put_kp {a k : Nat} {text : ByteArray} (st : St) : ∀ j, ((List.range j).foldl (putS a k text 0) st).wr = st.wr ∧ ((List.range j).foldl (putS a k text 0) st).dn = st.dn ∧
    ∀ i, ((List.range j).foldl (putS a k text 0) st).kp i 0 = if i < j then [(a, pcs text k i)] else st.kp i 0
  | 0 => ⟨rfl, rfl, fun i => by rw [if_neg (by omega)]; rfl⟩
  | j + 1 => by
    obtain ⟨h1, h2, h3⟩ := put_kp (a := a) (k := k) (text := text) st j
    rw [List.range_succ, List.foldl_append]
    obtain ⟨P, hP⟩ : ∃ P, (List.range j).foldl (putS a k text 0) st = P := ⟨_, rfl⟩
    rw [hP] at h1 h2 h3 ⊢
    show (putS a k text 0 P j).wr = _ ∧ (putS a k text 0 P j).dn = _ ∧ ∀ i, (putS a k text 0 P j).kp i 0 = _
    refine ⟨h1, h2, fun i => ?_⟩
    unfold putS
    by_cases hij : i = j
    · rw [hij, St.set_at, if_pos (by omega)]
    · rw [St.set_far _ _ (by omega), h3 i]
      by_cases hlt : i < j
      · rw [if_pos hlt, if_pos (by omega)]
      · rw [if_neg hlt, if_neg (by omega)]
theorem put_semi {n k wr : Nat} {text : ByteArray} (ht : text.size ≤ 60) (hw : wr ≤ n) : ∃ st2, putF n k wr ⟨0, fun _ => false, fun _ _ => []⟩ 0 text = (st2, ⟨ByteArray.empty, 1, 0⟩, 0) ∧ Semi n k n text st2 := by
  have hu : ups n ⟨0, fun _ => false, fun _ _ => []⟩ = List.range n := ups_all (fun _ _ => rfl)
  have hE : splE n wr ⟨0, fun _ => false, fun _ _ => []⟩ text = 0 := by
    unfold splE
    rw [if_neg (by omega), hu, List.length_range, if_neg (by omega), if_neg (by simp)]
  refine ⟨(List.range n).foldl (putS (0 + 1) k text 0) (St.up1 ⟨0, fun _ => false, fun _ _ => []⟩), ?_, ?_⟩
  · unfold putF
    rw [if_neg (by rw [hE]; simp), hu]
  · obtain ⟨h1, h2, h3⟩ := put_kp (a := 0 + 1) (k := k) (text := text) (St.up1 ⟨0, fun _ => false, fun _ _ => []⟩) n
    exact ⟨h1, fun i _ => by rw [h2]; rfl, fun i hi => by rw [h3 i, if_pos hi, if_neg (by omega)]⟩
theorem put_large {n k wr : Nat} {text : ByteArray} (ht : 60 < text.size) : putF n k wr ⟨0, fun _ => false, fun _ _ => []⟩ 0 text = (⟨0, fun _ => false, fun _ _ => []⟩, Tl.no, 2) := by
  have hE : splE n wr ⟨0, fun _ => false, fun _ _ => []⟩ text = 2 := if_pos ht
  unfold putF
  rw [if_pos (by rw [hE]; simp), hE]
end Go.Proofs.Ytioecklnijhjgaa
