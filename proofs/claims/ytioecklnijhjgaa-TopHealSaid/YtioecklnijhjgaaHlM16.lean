/- Contract of the reference's RowOf; the small checks of package reed; slices.Equal at bytes. -/
import Derived.Test.YtioecklnijhjgaaRows
import Derived.Test.YtioecklnijhjgaaHlM15
import Derived.Test.YtioecklnijhjgaaHlM13
import Derived.Test.YtioecklnijhjgaaHlM3
import Derived.Deep.SlicePairs
import Derived.ChangeArms
namespace Go.Proofs.Ytioecklnijhjgaa
open Go.RowKit

def RowOfPost (xs ys : Nat → GF) (k n : Nat) (w : World) (e : Ending) (w' : World) : Prop :=
  ∃ v, e = .returned v ∧ w'.ownsRow w.heap.size 5 1 v n (rowF n (gfV fun j => lag xs ys k (gf j))) ∧ Below w.heap.size w w'
theorem hor_lag (xs ys : Nat → GF) (k : Nat) (hk : 1 ≤ k) (hd : ∀ i j, i < k → j < k → i ≠ j → xs i ≠ xs j) (x : GF) : horN xs (fun j => dd xs ys j j) x 0 k = lag xs ys k x := by
  obtain ⟨n, rfl⟩ : ∃ n, k = n + 1 := ⟨k - 1, by omega⟩
  rw [← newt_hor gfld, lag_newt gfld xs ys n hd]
set_option maxRecDepth 100000 in
set_option maxHeartbeats 2000000 in
theorem ref_RowOf (xs ys : Nat → GF) (k n : Nat) (ao bo : Option Addr) (cap cap2 : Nat) (w : World) (hk1 : 1 ≤ k) (hk : k ≤ 256) (hn : n ≤ 256) (hdist : Hid (∀ i j, i < k → j < k → i ≠ j → xs i ≠ xs j)) (hx : Hid (Reads w ao (rowF k (gfV xs)))) (hy : Hid (Reads w bo (rowF k (gfV ys)))) :
    Calls Try.prog 63 #[.slice ao k cap, .slice bo k cap2, .int .i64 n] w (RowOfPost xs ys k n w) := by
  go_enter Try.func63, Try.ntmps63
  go_wp2_with fail
  refine (ref_Steps xs ys k ao bo cap cap2 w hk1 hk hx hy).mono ?_
  rintro e w1 ⟨g, cp, rfl, hO, hb1⟩
  have HO := Lib.hid hO
  have HB1 := Lib.hid hb1
  clear hO hb1
  go_wp2_with fail
  go_loopw [8, 14] (fun vo vx wr => ∃ x : Nat, vx = .int .i64 x ∧ x ≤ n ∧ Hid (wr.ownsRow w.heap.size 5 1 vo x (rowF x (gfV fun j => lag xs ys k (gf j)))) ∧ Hid (Own wr w.heap.size 5 g k cp (gfV fun j => dd xs ys j j)) ∧ Hid (∀ r, vo.ownBlock = some r → r ≠ g) ∧ Hid (Below w.heap.size w wr)) (fun _ vx _ => n - (intOf vx).toNat)
  case atStart => exact ⟨0, rfl, by omega, World.ownsRow_nil _ _ _ _, HO, fun r h => (by cases h), HB1⟩
  case round =>
    obtain ⟨x, rfl, hxn, hrow, hO, hap, hb⟩ := hrel
    by_cases hx1 : x < n
    · have hx2 : x < 256 := by omega
      have e1 := wrap_u8 x hx2
      obtain ⟨y, hy2⟩ : ∃ y, (horN xs (fun j => dd xs ys j j) (gf x) 0 k).val = y := ⟨_, rfl⟩
      have C := Lib.hid (fun W hx hd => ref_Through xs (fun j => dd xs ys j j) x k ao (some ⟨g, 0, none⟩) cap cp W hx2 hk hx hd)
      rw [hy2] at C
      have hv : Hid (Value.int .u8 (y : Int) = gfV (fun j => lag xs ys k (gf j)) x) := by
        show _ = _
        unfold gfV
        rw [← hy2, hor_lag xs ys k hk1 hdist.out]
      have hX := Lib.hid (hx.out.below hb.out)
      have hRO := Lib.hid hO.out.reads
      clear hy2
      go_wp2_with fail
      refine (C.out _ hX.out hRO).mono ?_
      rintro e w' ⟨rfl, q, rfl⟩
      have hrow2 := Lib.hid (own_below hrow.out (below_dr wr.heap.size wr q))
      have hO2 := Lib.hid (hO.out.drewN q)
      have hb2 := Lib.hid (below_drewN hb.out q)
      obtain ⟨wq, hwq⟩ : ∃ wq, wr.drewN q = wq := ⟨_, rfl⟩
      rw [hwq] at hrow2 hO2 hb2 ⊢
      clear hwq
      go_wp2_with (at_builtin; go_must (refine app_one2 rfl (.tmp 17) (.tmp 23) _ rfl w.heap.size 5 _ 1 1 Try.underlying73 u8Info u8 x (rowF x (gfV fun j => lag xs ys k (gf j))) (by rfl) hrow2.out [.int .u8 (y : Int)] (by rfl) rfl (by intro u hu; simp at hu; subst hu; rfl) (by unfold maxLen; omega) (by omega) hb2.out.size ?_); intro v2 w2 hown2 hgr2 hb3 hat2)
      have hrow3 : Hid (w2.ownsRow w.heap.size 5 1 v2 (x + 1) (rowF (x + 1) (gfV fun j => lag xs ys k (gf j)))) := by
        show World.ownsRow _ _ _ _ _ _ _
        rw [rowF_succ, ← hv.out]; exact hown2
      have hO3 : Hid (Own w2 w.heap.size 5 g k cp (gfV fun j => dd xs ys j j)) := World.ownsRow.kept (World.ownsRow.alloc hO2.out _) hgr2 (by
        right
        intro h
        exact hap.out g h.symm rfl)
      have hap3 : Hid (∀ r, v2.ownBlock = some r → r ≠ g) := by
        intro r hr
        rcases hat2 with h | h
        · exact hap.out r (by rw [← h]; exact hr)
        · rw [h] at hr; injection hr with hr; have := hO2.out.lt; omega
      have hb4 := Lib.hid (hb2.out.trans hb3)
      clear hown2 hgr2 hat2 hb3
      go_roundw
      case rel => exact ⟨x + 1, by go_num, by omega, hrow3, hO3, hap3, hb4⟩
      case measure => simp [intOf]; omega
    · have hfin : Hid (RowOfPost xs ys k n w (.returned u8) wr) := by
        have : x = n := by omega
        exact ⟨u8, rfl, by rw [← this]; exact hrow.out, hb.out⟩
      go_wp2_with fail
      go_ret
      exact hfin.out
end Go.Proofs.Ytioecklnijhjgaa
namespace Go.Proofs.Ytioecklnijhjgaa

/-- The places below n that have something, in order. -/
def pl (H : Nat → Bool) (n : Nat) : List Nat := (List.range n).filter H
theorem pl_succ (H : Nat → Bool) (n : Nat) : pl H (n + 1) = if H n then pl H n ++ [n] else pl H n := by
  unfold pl
  rw [List.range_succ, List.filter_append]
  by_cases h : H n
  · rw [if_pos h]; simp [h]
  · rw [if_neg h]; simp [h]
theorem pl_len (H : Nat → Bool) (n : Nat) : (pl H n).length ≤ n := by
  have := List.length_filter_le H (List.range n); unfold pl; simp at this ⊢; exact this
theorem mem_pl {H : Nat → Bool} {n j : Nat} : j ∈ pl H n ↔ j < n ∧ H j = true := by simp [pl]
theorem pl_nodup (H : Nat → Bool) (n : Nat) : (pl H n).Nodup := by rw [List.nodup_iff_pairwise_ne]; exact List.Pairwise.filter _ (List.nodup_iff_pairwise_ne.1 List.nodup_range)
/-- From behind: those of the last s places below n, the last one first. -/
def pd (H : Nat → Bool) (n s : Nat) : List Nat := ((List.range' (n - s) s).filter H).reverse
theorem pd_zero (H : Nat → Bool) (n : Nat) : pd H n 0 = [] := rfl
theorem pd_succ (H : Nat → Bool) {n s : Nat} (h : s < n) : pd H n (s + 1) = if H (n - 1 - s) then pd H n s ++ [n - 1 - s] else pd H n s := by
  unfold pd
  have e : List.range' (n - (s + 1)) (s + 1) = (n - 1 - s) :: List.range' (n - s) s := by
    rw [List.range'_succ, show n - (s + 1) = n - 1 - s by omega, show n - 1 - s + 1 = n - s by omega]
  rw [e, List.filter_cons]
  by_cases h : H (n - 1 - s)
  · rw [if_pos h, if_pos h, List.reverse_cons]
  · rw [if_neg h, if_neg h]
theorem pd_all (H : Nat → Bool) (n : Nat) : pd H n n = (pl H n).reverse := by
  unfold pd pl; rw [Nat.sub_self, List.range_eq_range']
theorem pd_len (H : Nat → Bool) (n s : Nat) : (pd H n s).length ≤ s := by
  have := List.length_filter_le H (List.range' (n - s) s); unfold pd; simp at this ⊢; exact this
theorem pd_mem {H : Nat → Bool} {n s j : Nat} (hs : s ≤ n) (h : j ∈ pd H n s) : j < n ∧ H j = true := by
  unfold pd at h
  rw [List.mem_reverse, List.mem_filter, List.mem_range'_1] at h
  exact ⟨by omega, h.2⟩
theorem nodup_rev {l : List Nat} (h : l.Nodup) : l.reverse.Nodup := by
  rw [List.nodup_iff_pairwise_ne] at h ⊢
  rw [List.pairwise_reverse]
  exact h.imp fun h => h.symm
/-- Points at the places of a list. -/
def atP (l : List Nat) (j : Nat) : GF := gf (l.getD j 0)
def byP (B : Nat → GF) (l : List Nat) (j : Nat) : GF := B (l.getD j 0)
theorem getD_mem {l : List Nat} {j : Nat} (h : j < l.length) : l.getD j 0 ∈ l := by
  rw [List.getD_eq_getElem?_getD, List.getElem?_eq_getElem h]; exact List.getElem_mem h
theorem atP_ne {l : List Nat} (hn : l.Nodup) (hl : ∀ a ∈ l, a < 256) : ∀ i j, i < l.length → j < l.length → i ≠ j → atP l i ≠ atP l j := by
  intro i j hi hj hij he
  unfold atP at he
  have h1 := gf_inj (hl _ (getD_mem hi)) (hl _ (getD_mem hj)) he
  rw [List.getD_eq_getElem?_getD, List.getD_eq_getElem?_getD, List.getElem?_eq_getElem hi, List.getElem?_eq_getElem hj] at h1
  simp only [Option.getD_some] at h1
  rw [List.nodup_iff_pairwise_ne, List.pairwise_iff_getElem] at hn
  rcases Nat.lt_or_ge i j with h3 | h3
  · exact hn i j hi hj h3 h1
  · exact hn j i hj hi (by omega) h1.symm
/-- The row through the first k of some places. -/
def rowP (B : Nat → GF) (l : List Nat) (k : Nat) (x : GF) : GF := lag (atP l) (byP B l) k x
theorem rowP_same {B : Nat → GF} {l m : List Nat} {k : Nat} (hk : k ≤ m.length) (hn : m.Nodup) (hm : ∀ a ∈ m, a < 256) (h : ∀ a ∈ m, rowP B l k (gf a) = B a) (x : GF) : rowP B m k x = rowP B l k x :=
  lag_uniq gfld (lag_poly gfld _ _ k) _ _ (fun i j hi hj hij => atP_ne hn hm i j (by omega) (by omega) hij) (fun j hj => h _ (getD_mem (by omega))) x
/-- All that are there fit. -/
def Fit (H : Nat → Bool) (B : Nat → GF) (l : List Nat) (k n : Nat) : Prop := ∀ a, a < n → H a = true → rowP B l k (gf a) = B a
theorem fit_iff {H : Nat → Bool} {B : Nat → GF} {k n : Nat} (hn : n ≤ 256) (hk : k ≤ (pl H n).length) :
    (Fit H B (pl H n) k n ↔ Fit H B (pd H n n) k n) ∧ (Fit H B (pl H n) k n → ∀ x, rowP B (pd H n n) k x = rowP B (pl H n) k x) := by
  have m1 : ∀ a ∈ pl H n, a < 256 := fun a ha => by have := (mem_pl.1 ha).1; omega
  have m2 : ∀ a ∈ pd H n n, a < 256 := fun a ha => by rw [pd_all, List.mem_reverse] at ha; exact m1 a ha
  have n2 : (pd H n n).Nodup := by rw [pd_all]; exact nodup_rev (pl_nodup H n)
  have k2 : k ≤ (pd H n n).length := by rw [pd_all, List.length_reverse]; exact hk
  have a1 : Fit H B (pl H n) k n → ∀ x, rowP B (pd H n n) k x = rowP B (pl H n) k x := fun h x =>
    rowP_same k2 n2 m2 (fun a ha => by rw [pd_all, List.mem_reverse, mem_pl] at ha; exact h a ha.1 ha.2) x
  have a2 : Fit H B (pd H n n) k n → ∀ x, rowP B (pl H n) k x = rowP B (pd H n n) k x := fun h x =>
    rowP_same hk (pl_nodup H n) m1 (fun a ha => by rw [mem_pl] at ha; exact h a ha.1 ha.2) x
  exact ⟨⟨fun h a ha hb => by rw [a1 h]; exact h a ha hb, fun h a ha hb => by rw [a2 h]; exact h a ha hb⟩, a1⟩
/-- The first k of a list grow with it till they are k. -/
theorem take_grow (l : List Nat) (k a : Nat) : (l ++ [a]).take k = if l.length < k then l.take k ++ [a] else l.take k := by
  split
  · rename_i h
    rw [List.take_of_length_le (by simp; omega), List.take_of_length_le (by omega)]
  · rename_i h
    rw [List.take_append_of_le_length (by omega)]
theorem getD_take {l : List Nat} {k j : Nat} (h : j < k) : (l.take k).getD j 0 = l.getD j 0 := by
  rw [List.getD_eq_getElem?_getD, List.getD_eq_getElem?_getD, List.getElem?_take_of_lt h]
end Go.Proofs.Ytioecklnijhjgaa
namespace Go.Proofs.Ytioecklnijhjgaa
open Go.RowKit

/-- A list of pairs of cells. -/
def cells2 (zs : List (Value × Value)) : List Value := zs.flatMap fun a => [a.1, a.2]
theorem cells2_nil : cells2 [] = [] := rfl
theorem cells2_length (zs : List (Value × Value)) : (cells2 zs).length = zs.length * 2 := by
  induction zs with
  | nil => rfl
  | cons a zs ih =>
    show (a.1 :: a.2 :: cells2 zs).length = _
    simp only [List.length_cons, ih]; omega
theorem cells2_get (l : List (Value × Value)) (k : Nat) (a : Value × Value) (h : l[k]? = some a) : (cells2 l)[k * 2]? = some a.1 ∧ (cells2 l)[k * 2 + 1]? = some a.2 := by
  induction l generalizing k with
  | nil => simp at h
  | cons b l ih =>
    have e : cells2 (b :: l) = b.1 :: b.2 :: cells2 l := rfl
    rw [e]
    cases k with
    | zero => simp at h; subst h; exact ⟨rfl, rfl⟩
    | succ k =>
      rw [List.getElem?_cons_succ] at h
      obtain ⟨h1, h2⟩ := ih k h
      refine ⟨?_, ?_⟩
      · rw [show (k + 1) * 2 = k * 2 + 1 + 1 by omega, List.getElem?_cons_succ, List.getElem?_cons_succ]; exact h1
      · rw [show (k + 1) * 2 + 1 = k * 2 + 1 + 1 + 1 by omega, List.getElem?_cons_succ, List.getElem?_cons_succ]; exact h2
theorem cells2_get' (l : List (Value × Value)) (j : Nat) (u : Value) (h : (cells2 l)[j]? = some u) : ∃ k a, l[k]? = some a ∧ ((j = k * 2 ∧ u = a.1) ∨ (j = k * 2 + 1 ∧ u = a.2)) := by
  have hj : j < l.length * 2 := by rw [← cells2_length]; exact (List.getElem?_eq_some_iff.1 h).1
  have hk : j / 2 < l.length := by omega
  refine ⟨j / 2, l[j / 2], List.getElem?_eq_getElem hk, ?_⟩
  obtain ⟨h1, h2⟩ := cells2_get l (j / 2) _ (List.getElem?_eq_getElem hk)
  rcases (by omega : j = j / 2 * 2 ∨ j = j / 2 * 2 + 1) with e | e
  · left; refine ⟨e, ?_⟩; rw [← e, h] at h1; exact Option.some.inj h1
  · right; refine ⟨e, ?_⟩; rw [← e, h] at h2; exact Option.some.inj h2
/-- Pairs of numbers that came in. -/
def PairsIn (k0 k1 : IntKind) (w : World) (ao : Option Addr) (len : Nat) (zs : List (Int × Int)) : Prop :=
  zs.length = len ∧ len ≤ 9223372036854775807 ∧ (∀ z ∈ zs, (Lit.int k0 z.1).wf = true ∧ (Lit.int k1 z.2).wf = true) ∧ Reads w ao (cells2 (zs.map fun z => (.int k0 z.1, .int k1 z.2)))
/-- Pairs of a truth and a number that came in. -/
def FlagsIn (k1 : IntKind) (w : World) (ao : Option Addr) (len : Nat) (zs : List (Bool × Int)) : Prop :=
  zs.length = len ∧ len ≤ 9223372036854775807 ∧ (∀ z ∈ zs, (Lit.int k1 z.2).wf = true) ∧ Reads w ao (cells2 (zs.map fun z => (.bool z.1, .int k1 z.2)))
theorem pairsIn_nil (k0 k1 : IntKind) (w : World) : PairsIn k0 k1 w none 0 [] := ⟨rfl, by omega, by simp, Reads.nil _ _⟩
theorem flagsIn_nil (k1 : IntKind) (w : World) : FlagsIn k1 w none 0 [] := ⟨rfl, by omega, by simp, Reads.nil _ _⟩
theorem PairsIn.below {k0 k1 : IntKind} {w w' : World} {ao : Option Addr} {n : Nat} {zs : List (Int × Int)} (h : PairsIn k0 k1 w ao n zs) (hb : Below w.heap.size w w') : PairsIn k0 k1 w' ao n zs := ⟨h.1, h.2.1, h.2.2.1, h.2.2.2.below hb⟩
theorem FlagsIn.below {k1 : IntKind} {w w' : World} {ao : Option Addr} {n : Nat} {zs : List (Bool × Int)} (h : FlagsIn k1 w ao n zs) (hb : Below w.heap.size w w') : FlagsIn k1 w' ao n zs := ⟨h.1, h.2.1, h.2.2.1, h.2.2.2.below hb⟩
theorem choose_list {α : Type} {p : Nat → α → Prop} : ∀ (n : Nat), (∀ i, i < n → ∃ a, p i a) → ∃ l : List α, l.length = n ∧ ∀ i a, l[i]? = some a → p i a
  | 0, _ => ⟨[], rfl, by simp⟩
  | n + 1, h => by
    obtain ⟨l, hl, hp⟩ := choose_list n fun i hi => h i (by omega)
    obtain ⟨a, ha⟩ := h n (by omega)
    refine ⟨l ++ [a], by simp [hl], fun i b hb => ?_⟩
    rw [List.getElem?_append] at hb
    split at hb
    · exact hp i b hb
    · rename_i hi
      by_cases hin : i = n
      · subst hin; rw [hl, Nat.sub_self] at hb; simp at hb; subst hb; exact ha
      · rw [List.getElem?_eq_none (by simp; omega)] at hb; cases hb
theorem pairs_of {w : World} {a : Addr} {len cap m : Nat} {α : Type} {g : α → Value × Value} {q : α → Prop} (hl : len ≤ cap) (hm : cap ≤ maxLen) (hmm : len ≤ m)
    (h : ∀ i, i < m → ∃ z, w.cell? (a.add (i * 2)) = some (g z).1 ∧ w.cell? (a.add (i * 2 + 1)) = some (g z).2 ∧ q z) :
    ∃ zs : List α, zs.length = len ∧ len ≤ 9223372036854775807 ∧ (∀ z ∈ zs, q z) ∧ Reads w (some a) (cells2 (zs.map g)) := by
  unfold maxLen at hm
  obtain ⟨l, hlen, hp⟩ := choose_list len fun i hi => h i (by omega)
  refine ⟨l, hlen, by omega, ?_, reads_of ?_⟩
  · intro z hz
    obtain ⟨i, hi⟩ := List.getElem?_of_mem hz
    exact (hp i z hi).2.2
  · intro i u hu
    obtain ⟨k, b, hk, hd⟩ := cells2_get' _ i u hu
    rw [List.getElem?_map] at hk
    cases hz : l[k]? with
    | none => rw [hz] at hk; simp at hk
    | some z =>
      rw [hz] at hk
      simp at hk
      subst hk
      rcases hd with ⟨rfl, rfl⟩ | ⟨rfl, rfl⟩
      · exact (hp k z hz).1
      · exact (hp k z hz).2.1
end Go.Proofs.Ytioecklnijhjgaa
