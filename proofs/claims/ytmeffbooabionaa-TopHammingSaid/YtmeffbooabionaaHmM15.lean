/- Contracts of the reference's Steps, Through and RowOf. -/
import Derived.Test.YtmeffbooabionaaRows
import Derived.Test.YtmeffbooabionaaHmM13
import Derived.Test.YtmeffbooabionaaRow2
import Derived.Deep.RegionHeld3
import Derived.Deep.RegionLaw
import Derived.Deep.DrawnRows
import Derived.Test.YtmeffbooabionaaHmM10
set_option linter.unusedVariables false
set_option linter.unusedSimpArgs false
namespace Go.Proofs.Ytmeffbooabionaa
open Go.RowKit

attribute [local go_sem ↓] Go.wp_at_zero Go.wp_at_succ
/-- The differences while stage n is at place i. -/
def stepX (xs ys : Nat → GF) (n : Nat) (i : Int) (j : Nat) : GF := if i < (j : Int) then dd xs ys (min n j) j else dd xs ys (min (n - 1) j) j
def StepsPost (xs ys : Nat → GF) (k : Nat) (w : World) (e : Ending) (w' : World) : Prop :=
  ∃ g cap, e = .returned (.slice (some ⟨g, 0, none⟩) k cap) ∧ Own w' w.heap.size 5 g k cap (gfV fun j => dd xs ys j j) ∧ Below w.heap.size w w'
end Go.Proofs.Ytmeffbooabionaa
namespace Go.Proofs.Ytmeffbooabionaa
open Go.RowKit

end Go.Proofs.Ytmeffbooabionaa
namespace Go.Proofs.Ytmeffbooabionaa
open Go.RowKit

def RowOfPost (xs ys : Nat → GF) (k n : Nat) (w : World) (e : Ending) (w' : World) : Prop :=
  ∃ v, e = .returned v ∧ w'.ownsRow w.heap.size 5 1 v n (rowF n (gfV fun j => lag xs ys k (gf j))) ∧ Below w.heap.size w w'
theorem hor_lag (xs ys : Nat → GF) (k : Nat) (hk : 1 ≤ k) (hd : ∀ i j, i < k → j < k → i ≠ j → xs i ≠ xs j) (x : GF) : horN xs (fun j => dd xs ys j j) x 0 k = lag xs ys k x := by
  obtain ⟨n, rfl⟩ : ∃ n, k = n + 1 := ⟨k - 1, by omega⟩
  rw [← newt_hor gfld, lag_newt gfld xs ys n hd]
end Go.Proofs.Ytmeffbooabionaa
namespace Go.Proofs.Ytmeffbooabionaa

/-- The places below n that have something, in order. -/
def pl (H : Nat → Bool) (n : Nat) : List Nat := (List.range n).filter H
theorem pl_succ (H : Nat → Bool) (n : Nat) : pl H (n + 1) = if H n then pl H n ++ [n] else pl H n := by
  unfold pl
  rw [List.range_succ, List.filter_append]
  by_cases h : H n
  · rw [if_pos h]; simp [h]
  · rw [if_neg h]; simp [h]
theorem pl_len (H : Nat → Bool) (n : Nat) : (pl H n).length ≤ n := by
  have := List.length_filter_le H (List.range n); unfold pl; simp at this ⊢; exact this
theorem mem_pl {H : Nat → Bool} {n j : Nat} : j ∈ pl H n ↔ j < n ∧ H j = true := by simp [pl]
theorem pl_nodup (H : Nat → Bool) (n : Nat) : (pl H n).Nodup := by rw [List.nodup_iff_pairwise_ne]; exact List.Pairwise.filter _ (List.nodup_iff_pairwise_ne.1 List.nodup_range)
/-- From behind: those of the last s places below n, the last one first. -/
def pd (H : Nat → Bool) (n s : Nat) : List Nat := ((List.range' (n - s) s).filter H).reverse
theorem pd_zero (H : Nat → Bool) (n : Nat) : pd H n 0 = [] := rfl
theorem pd_succ (H : Nat → Bool) {n s : Nat} (h : s < n) : pd H n (s + 1) = if H (n - 1 - s) then pd H n s ++ [n - 1 - s] else pd H n s := by
  unfold pd
  have e : List.range' (n - (s + 1)) (s + 1) = (n - 1 - s) :: List.range' (n - s) s := by
    rw [List.range'_succ, show n - (s + 1) = n - 1 - s by omega, show n - 1 - s + 1 = n - s by omega]
  rw [e, List.filter_cons]
  by_cases h : H (n - 1 - s)
  · rw [if_pos h, if_pos h, List.reverse_cons]
  · rw [if_neg h, if_neg h]
theorem pd_all (H : Nat → Bool) (n : Nat) : pd H n n = (pl H n).reverse := by
  unfold pd pl; rw [Nat.sub_self, List.range_eq_range']
theorem pd_len (H : Nat → Bool) (n s : Nat) : (pd H n s).length ≤ s := by
  have := List.length_filter_le H (List.range' (n - s) s); unfold pd; simp at this ⊢; exact this
theorem pd_mem {H : Nat → Bool} {n s j : Nat} (hs : s ≤ n) (h : j ∈ pd H n s) : j < n ∧ H j = true := by
  unfold pd at h
  rw [List.mem_reverse, List.mem_filter, List.mem_range'_1] at h
  exact ⟨by omega, h.2⟩
theorem nodup_rev {l : List Nat} (h : l.Nodup) : l.reverse.Nodup := by
  rw [List.nodup_iff_pairwise_ne] at h ⊢
  rw [List.pairwise_reverse]
  exact h.imp fun h => h.symm
/-- Points at the places of a list. -/
def atP (l : List Nat) (j : Nat) : GF := gf (l.getD j 0)
def byP (B : Nat → GF) (l : List Nat) (j : Nat) : GF := B (l.getD j 0)
theorem getD_mem {l : List Nat} {j : Nat} (h : j < l.length) : l.getD j 0 ∈ l := by
  rw [List.getD_eq_getElem?_getD, List.getElem?_eq_getElem h]; exact List.getElem_mem h
theorem atP_ne {l : List Nat} (hn : l.Nodup) (hl : ∀ a ∈ l, a < 256) : ∀ i j, i < l.length → j < l.length → i ≠ j → atP l i ≠ atP l j := by
  intro i j hi hj hij he
  unfold atP at he
  have h1 := gf_inj (hl _ (getD_mem hi)) (hl _ (getD_mem hj)) he
  rw [List.getD_eq_getElem?_getD, List.getD_eq_getElem?_getD, List.getElem?_eq_getElem hi, List.getElem?_eq_getElem hj] at h1
  simp only [Option.getD_some] at h1
  rw [List.nodup_iff_pairwise_ne, List.pairwise_iff_getElem] at hn
  rcases Nat.lt_or_ge i j with h3 | h3
  · exact hn i j hi hj h3 h1
  · exact hn j i hj hi (by omega) h1.symm
/-- The row through the first k of some places. -/
def rowP (B : Nat → GF) (l : List Nat) (k : Nat) (x : GF) : GF := lag (atP l) (byP B l) k x
theorem rowP_same {B : Nat → GF} {l m : List Nat} {k : Nat} (hk : k ≤ m.length) (hn : m.Nodup) (hm : ∀ a ∈ m, a < 256) (h : ∀ a ∈ m, rowP B l k (gf a) = B a) (x : GF) : rowP B m k x = rowP B l k x :=
  lag_uniq gfld (lag_poly gfld _ _ k) _ _ (fun i j hi hj hij => atP_ne hn hm i j (by omega) (by omega) hij) (fun j hj => h _ (getD_mem (by omega))) x
/-- All that are there fit. -/
def Fit (H : Nat → Bool) (B : Nat → GF) (l : List Nat) (k n : Nat) : Prop := ∀ a, a < n → H a = true → rowP B l k (gf a) = B a
theorem fit_iff {H : Nat → Bool} {B : Nat → GF} {k n : Nat} (hn : n ≤ 256) (hk : k ≤ (pl H n).length) :
    (Fit H B (pl H n) k n ↔ Fit H B (pd H n n) k n) ∧ (Fit H B (pl H n) k n → ∀ x, rowP B (pd H n n) k x = rowP B (pl H n) k x) := by
  have m1 : ∀ a ∈ pl H n, a < 256 := fun a ha => by have := (mem_pl.1 ha).1; omega
  have m2 : ∀ a ∈ pd H n n, a < 256 := fun a ha => by rw [pd_all, List.mem_reverse] at ha; exact m1 a ha
  have n2 : (pd H n n).Nodup := by rw [pd_all]; exact nodup_rev (pl_nodup H n)
  have k2 : k ≤ (pd H n n).length := by rw [pd_all, List.length_reverse]; exact hk
  have a1 : Fit H B (pl H n) k n → ∀ x, rowP B (pd H n n) k x = rowP B (pl H n) k x := fun h x =>
    rowP_same k2 n2 m2 (fun a ha => by rw [pd_all, List.mem_reverse, mem_pl] at ha; exact h a ha.1 ha.2) x
  have a2 : Fit H B (pd H n n) k n → ∀ x, rowP B (pl H n) k x = rowP B (pd H n n) k x := fun h x =>
    rowP_same hk (pl_nodup H n) m1 (fun a ha => by rw [mem_pl] at ha; exact h a ha.1 ha.2) x
  exact ⟨⟨fun h a ha hb => by rw [a1 h]; exact h a ha hb, fun h a ha hb => by rw [a2 h]; exact h a ha hb⟩, a1⟩
/-- The first k of a list grow with it till they are k. -/
theorem take_grow (l : List Nat) (k a : Nat) : (l ++ [a]).take k = if l.length < k then l.take k ++ [a] else l.take k := by
  split
  · rename_i h
    rw [List.take_of_length_le (by simp; omega), List.take_of_length_le (by omega)]
  · rename_i h
    rw [List.take_append_of_le_length (by omega)]
theorem getD_take {l : List Nat} {k j : Nat} (h : j < k) : (l.take k).getD j 0 = l.getD j 0 := by
  rw [List.getD_eq_getElem?_getD, List.getD_eq_getElem?_getD, List.getElem?_take_of_lt h]
end Go.Proofs.Ytmeffbooabionaa
