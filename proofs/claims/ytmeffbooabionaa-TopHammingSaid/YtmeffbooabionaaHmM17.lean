/- Slices of structs of two fields that came in: what their cells hold. Over whatever program. -/
import Derived.Test.YtmeffbooabionaaArgs
import Derived.Deep.SlicePairs
import Derived.ChangeArms
import Derived.Test.YtmeffbooabionaaRows
import Derived.Test.YtmeffbooabionaaHmM15
import Derived.Test.YtmeffbooabionaaHmM3
import Derived.Test.YtmeffbooabionaaHmM6
import Derived.Test.YtmeffbooabionaaEuclid
set_option linter.unusedVariables false
set_option linter.unusedSimpArgs false
namespace Go.Proofs.Ytmeffbooabionaa
open Go.RowKit

/-- A list of pairs of cells. -/
def cells2 (zs : List (Value × Value)) : List Value := zs.flatMap fun a => [a.1, a.2]
theorem cells2_nil : cells2 [] = [] := rfl
theorem cells2_length (zs : List (Value × Value)) : (cells2 zs).length = zs.length * 2 := by
  induction zs with
  | nil => rfl
  | cons a zs ih =>
    show (a.1 :: a.2 :: cells2 zs).length = _
    simp only [List.length_cons, ih]; omega
theorem cells2_get (l : List (Value × Value)) (k : Nat) (a : Value × Value) (h : l[k]? = some a) : (cells2 l)[k * 2]? = some a.1 ∧ (cells2 l)[k * 2 + 1]? = some a.2 := by
  induction l generalizing k with
  | nil => simp at h
  | cons b l ih =>
    have e : cells2 (b :: l) = b.1 :: b.2 :: cells2 l := rfl
    rw [e]
    cases k with
    | zero => simp at h; subst h; exact ⟨rfl, rfl⟩
    | succ k =>
      rw [List.getElem?_cons_succ] at h
      obtain ⟨h1, h2⟩ := ih k h
      refine ⟨?_, ?_⟩
      · rw [show (k + 1) * 2 = k * 2 + 1 + 1 by omega, List.getElem?_cons_succ, List.getElem?_cons_succ]; exact h1
      · rw [show (k + 1) * 2 + 1 = k * 2 + 1 + 1 + 1 by omega, List.getElem?_cons_succ, List.getElem?_cons_succ]; exact h2
theorem cells2_get' (l : List (Value × Value)) (j : Nat) (u : Value) (h : (cells2 l)[j]? = some u) : ∃ k a, l[k]? = some a ∧ ((j = k * 2 ∧ u = a.1) ∨ (j = k * 2 + 1 ∧ u = a.2)) := by
  have hj : j < l.length * 2 := by rw [← cells2_length]; exact (List.getElem?_eq_some_iff.1 h).1
  have hk : j / 2 < l.length := by omega
  refine ⟨j / 2, l[j / 2], List.getElem?_eq_getElem hk, ?_⟩
  obtain ⟨h1, h2⟩ := cells2_get l (j / 2) _ (List.getElem?_eq_getElem hk)
  rcases (by omega : j = j / 2 * 2 ∨ j = j / 2 * 2 + 1) with e | e
  · left; refine ⟨e, ?_⟩; rw [← e, h] at h1; exact Option.some.inj h1
  · right; refine ⟨e, ?_⟩; rw [← e, h] at h2; exact Option.some.inj h2
/-- Pairs of numbers that came in. -/
def PairsIn (k0 k1 : IntKind) (w : World) (ao : Option Addr) (len : Nat) (zs : List (Int × Int)) : Prop :=
  zs.length = len ∧ len ≤ 9223372036854775807 ∧ (∀ z ∈ zs, (Lit.int k0 z.1).wf = true ∧ (Lit.int k1 z.2).wf = true) ∧ Reads w ao (cells2 (zs.map fun z => (.int k0 z.1, .int k1 z.2)))
/-- Pairs of a truth and a number that came in. -/
def FlagsIn (k1 : IntKind) (w : World) (ao : Option Addr) (len : Nat) (zs : List (Bool × Int)) : Prop :=
  zs.length = len ∧ len ≤ 9223372036854775807 ∧ (∀ z ∈ zs, (Lit.int k1 z.2).wf = true) ∧ Reads w ao (cells2 (zs.map fun z => (.bool z.1, .int k1 z.2)))
theorem pairsIn_nil (k0 k1 : IntKind) (w : World) : PairsIn k0 k1 w none 0 [] := ⟨rfl, by omega, by simp, Reads.nil _ _⟩
theorem flagsIn_nil (k1 : IntKind) (w : World) : FlagsIn k1 w none 0 [] := ⟨rfl, by omega, by simp, Reads.nil _ _⟩
theorem PairsIn.below {k0 k1 : IntKind} {w w' : World} {ao : Option Addr} {n : Nat} {zs : List (Int × Int)} (h : PairsIn k0 k1 w ao n zs) (hb : Below w.heap.size w w') : PairsIn k0 k1 w' ao n zs := ⟨h.1, h.2.1, h.2.2.1, h.2.2.2.below hb⟩
theorem FlagsIn.below {k1 : IntKind} {w w' : World} {ao : Option Addr} {n : Nat} {zs : List (Bool × Int)} (h : FlagsIn k1 w ao n zs) (hb : Below w.heap.size w w') : FlagsIn k1 w' ao n zs := ⟨h.1, h.2.1, h.2.2.1, h.2.2.2.below hb⟩
theorem choose_list {α : Type} {p : Nat → α → Prop} : ∀ (n : Nat), (∀ i, i < n → ∃ a, p i a) → ∃ l : List α, l.length = n ∧ ∀ i a, l[i]? = some a → p i a
  | 0, _ => ⟨[], rfl, by simp⟩
  | n + 1, h => by
    obtain ⟨l, hl, hp⟩ := choose_list n fun i hi => h i (by omega)
    obtain ⟨a, ha⟩ := h n (by omega)
    refine ⟨l ++ [a], by simp [hl], fun i b hb => ?_⟩
    rw [List.getElem?_append] at hb
    split at hb
    · exact hp i b hb
    · rename_i hi
      by_cases hin : i = n
      · subst hin; rw [hl, Nat.sub_self] at hb; simp at hb; subst hb; exact ha
      · rw [List.getElem?_eq_none (by simp; omega)] at hb; cases hb
theorem pairs_of {w : World} {a : Addr} {len cap m : Nat} {α : Type} {g : α → Value × Value} {q : α → Prop} (hl : len ≤ cap) (hm : cap ≤ maxLen) (hmm : len ≤ m)
    (h : ∀ i, i < m → ∃ z, w.cell? (a.add (i * 2)) = some (g z).1 ∧ w.cell? (a.add (i * 2 + 1)) = some (g z).2 ∧ q z) :
    ∃ zs : List α, zs.length = len ∧ len ≤ 9223372036854775807 ∧ (∀ z ∈ zs, q z) ∧ Reads w (some a) (cells2 (zs.map g)) := by
  unfold maxLen at hm
  obtain ⟨l, hlen, hp⟩ := choose_list len fun i hi => h i (by omega)
  refine ⟨l, hlen, by omega, ?_, reads_of ?_⟩
  · intro z hz
    obtain ⟨i, hi⟩ := List.getElem?_of_mem hz
    exact (hp i z hi).2.2
  · intro i u hu
    obtain ⟨k, b, hk, hd⟩ := cells2_get' _ i u hu
    rw [List.getElem?_map] at hk
    cases hz : l[k]? with
    | none => rw [hz] at hk; simp at hk
    | some z =>
      rw [hz] at hk
      simp at hk
      subst hk
      rcases hd with ⟨rfl, rfl⟩ | ⟨rfl, rfl⟩
      · exact (hp k z hz).1
      · exact (hp k z hz).2.1
end Go.Proofs.Ytmeffbooabionaa
namespace Go.Proofs.Ytmeffbooabionaa
open Go.RowKit

theorem i64Info : ElemRow Try.prog 3 (.int .i64 0) 1 8 := elemRow_of (by kernel_rfl) rfl (by omega)
/-- What Check answers of n cells and the number k, m cells being the most. -/
def chkE (m n : Nat) (k : Int) : Int := if m < n then 2 else if k < 1 ∨ (n : Int) < k then 1 else 0
def putE (n : Nat) (N : Int) : Int := if n < 1 ∨ 20 < n then 2 else if N < n ∨ 20 < N then 1 else 0
set_option maxRecDepth 20000 in
theorem reed_Put_bad (n : Nat) (N : Int) (ao : Option Addr) (cap : Nat) (w : World) (h : putE n N ≠ 0) :
    Calls Try.prog 57 #[.slice ao n cap, .int .i64 N] w fun e w' => e = .returned (.tuple #[.slice none 0 0, .int .i64 (putE n N)]) ∧ w = w' := by
  unfold putE at h ⊢
  by_cases h1 : n < 1
  · have d : decide ((n : Int) < 1) = true := by simp; omega
    rw [if_pos (.inl h1)]
    clear h
    go_enter Try.func57, Try.ntmps57
    go_wp2_with fail
    go_ret2
    exact ⟨rfl, rfl⟩
  · have d : decide ((n : Int) < 1) = false := by simp; omega
    by_cases h2 : 20 < n
    · have d2 : decide ((20 : Int) < n) = true := by simp; omega
      rw [if_pos (.inr h2)]
      clear h
      go_enter Try.func57, Try.ntmps57
      go_wp2_with fail
      go_ret2
      exact ⟨rfl, rfl⟩
    · have d2 : decide ((20 : Int) < n) = false := by simp; omega
      rw [if_neg (by omega)] at h ⊢
      by_cases h3 : N < n
      · have d3 : decide (N < (n : Int)) = true := decide_eq_true h3
        rw [if_pos (.inl h3)]
        clear h
        go_enter Try.func57, Try.ntmps57
        go_wp2_with fail
        go_ret2
        exact ⟨rfl, rfl⟩
      · have d3 : decide (N < (n : Int)) = false := decide_eq_false h3
        have h4 : 20 < N := by
          rcases Int.lt_or_le 20 N with h4 | h4
          · exact h4
          · rw [if_neg (by omega)] at h; exact absurd rfl h
        have d4 : decide (20 < N) = true := decide_eq_true h4
        rw [if_pos (.inr h4)]
        clear h
        go_enter Try.func57, Try.ntmps57
        go_wp2_with fail
        go_ret2
        exact ⟨rfl, rfl⟩
def PutPost (ys : Nat → GF) (k n : Nat) (w : World) (e : Ending) (w' : World) : Prop :=
  ∃ g cap, e = .returned (.tuple #[.slice (some ⟨g, 0, none⟩) n cap, .int .i64 0]) ∧ Own w' w.heap.size 5 g n cap (gfV fun j => lag gf ys k (gf j)) ∧ Below w.heap.size w w'
set_option maxRecDepth 20000 in
set_option maxHeartbeats 1000000 in
theorem reed_Put (ys : Nat → GF) (n N : Nat) (ao : Option Addr) (cap : Nat) (w : World) (h1 : 1 ≤ n) (h2 : n ≤ N) (h3 : N ≤ 20) (hy : Hid (Reads w ao (rowF n (gfV ys)))) :
    Calls Try.prog 57 #[.slice ao n cap, .int .i64 N] w (PutPost ys n N w) := by
  have d1 : decide ((n : Int) < 1) = false := by simp; omega
  have d2 : decide ((20 : Int) < n) = false := by simp; omega
  have d3 : decide ((N : Int) < n) = false := by simp; omega
  have d4 : decide ((20 : Int) < N) = false := by simp; omega
  have d5 : decide (N < n) = false := by simp; omega
  go_enter Try.func57, Try.ntmps57
  go_wp2_with fail
  go_loopw [6, 7, 28] (fun vo _ vx wr => ∃ x : Nat, vx = .int .i64 x ∧ x ≤ n ∧ Hid (wr.ownsRow w.heap.size 3 1 vo x (rowF x (giV gf))) ∧ Hid (Below w.heap.size w wr)) (fun _ _ vx _ => n - (intOf vx).toNat)
  case atStart => exact ⟨0, rfl, by omega, World.ownsRow_nil _ _ _ _, Below.refl _ _⟩
  case round =>
    obtain ⟨x, rfl, hxn, hrow, hb⟩ := hrel
    by_cases hx1 : x < n
    · have hv : Hid (Value.int .i64 (x : Int) = giV gf x) := by
        show _ = _
        unfold giV
        rw [gf_val (by omega)]
      go_wp2_with (at_builtin; go_must (refine app_one rfl (.tmp 31) (.tmp 33) _ rfl w.heap.size 3 _ 1 8 Try.underlying32 i64Info u6 x (rowF x (giV gf)) (by rfl) hrow.out [.int .i64 (x : Int)] (by rfl) rfl (by intro u hu; simp at hu; subst hu; rfl) (by unfold maxLen; omega) (by omega) hb.out.size ?_); intro v2 w2 hown2 hgr2 hb3)
      have hrow3 : Hid (w2.ownsRow w.heap.size 3 1 v2 (x + 1) (rowF (x + 1) (giV gf))) := by
        show World.ownsRow _ _ _ _ _ _ _
        rw [rowF_succ, ← hv.out]; exact hown2
      have hb4 := Lib.hid (hb.out.trans hb3)
      clear hown2 hgr2 hb3
      go_roundw
      case rel => exact ⟨x + 1, by go_num, by omega, hrow3, hb4⟩
      case measure => simp [intOf]; omega
    · have hx2 : x = n := by omega
      obtain ⟨ao2, cp2, hv2, hR2, hn2, hm2⟩ := own_reads hrow.out
      rw [hx2] at hR2 hv2
      subst hv2
      have HR := Lib.hid hR2
      have HY := Lib.hid (hy.out.below hb.out)
      clear hR2 hn2 hm2 hx2
      go_wp2_with fail
      refine (reed_Row gf ys n N ao2 ao cp2 cap wr (by omega) (by omega) HR HY).mono ?_
      rintro e w' ⟨g, cp3, rfl, hO, hb3⟩
      have HO : Hid (Own w' w.heap.size 5 g N cp3 (gfV fun j => lag gf ys n (gf j))) := by
        have := own_mono hO hb.out.size
        exact this
      have HB := Lib.hid (hb.out.trans (Below.mono hb3 hb.out.size))
      clear hO hb3
      go_wp2_with fail
      go_ret2
      exact ⟨g, cp3, rfl, HO.out, HB.out⟩
end Go.Proofs.Ytmeffbooabionaa
namespace Go.Proofs.Ytmeffbooabionaa
open Go.RowKit

theorem good1 (x : Int) (w : World) : Calls Try.prog 61 #[.int .i64 x] w fun e w' => e = .returned (.bool (x != 0)) ∧ w = w' := by
  go_enter Try.func61, Try.ntmps61
  go_wp2_with fail
  go_ret
  exact ⟨rfl, rfl⟩
theorem hfnG : ∀ (x : Value) (W : World), (callFunc 61 #[x]).run Try.prog W = .ok (.enter 61 #[x]) W := by
  intro x W
  show (_ : Result _) = _
  kernel_rfl
theorem good_three (ao : Option Addr) (cap : Nat) (w : World) (hR : Hid (Reads w ao [.int .i64 0, .int .i64 0, .int .i64 0])) :
    Calls Try.prog 31 #[.slice ao 3 cap] w fun e w' => e = .returned (.bool true) ∧ ∃ m, w' = w.drewN m := by
  have h := containsFunc_err 61 hfnG (fun x => x != 0) [0, 0, 0] ao cap w (by simp) hR (Lib.hid fun x _ n => (good1 x _).mono fun e w' hh => ⟨hh.1, 0, hh.2.symm⟩)
  have e : ([0, 0, 0] : List Int).any (fun x => x != 0) = false := by decide
  rw [e] at h
  have HC := Lib.hid h
  clear h e
  go_enter Try.func31, Try.ntmps31
  go_wp2_with fail
  refine HC.out.mono ?_
  rintro e w' ⟨rfl, m, rfl⟩
  go_wp2_with fail
  go_ret
  exact ⟨rfl, m, rfl⟩
theorem good_two (ao : Option Addr) (cap : Nat) (w : World) (hR : Hid (Reads w ao [.int .i64 0, .int .i64 0])) :
    Calls Try.prog 31 #[.slice ao 2 cap] w fun e w' => e = .returned (.bool true) ∧ ∃ m, w' = w.drewN m := by
  have h := containsFunc_err 61 hfnG (fun x => x != 0) [0, 0] ao cap w (by simp) hR (Lib.hid fun x _ n => (good1 x _).mono fun e w' hh => ⟨hh.1, 0, hh.2.symm⟩)
  have e : ([0, 0] : List Int).any (fun x => x != 0) = false := by decide
  rw [e] at h
  have HC := Lib.hid h
  clear h e
  go_enter Try.func31, Try.ntmps31
  go_wp2_with fail
  refine HC.out.mono ?_
  rintro e w' ⟨rfl, m, rfl⟩
  go_wp2_with fail
  go_ret
  exact ⟨rfl, m, rfl⟩
def w57 (j : Nat) : GF := gf (if j = 0 then 5 else 7)
theorem works_row : (lag gf w57 2 (gf 2)).val = 1 := by decide +kernel
set_option maxRecDepth 20000 in
theorem top_works (w : World) : Calls Try.prog 29 #[] w fun e w' => e = .returned (.bool true) ∧ Below w.heap.size w w' := by
  have HG := Lib.hid (fun W => euclid_Gcd 12 18 W (by omega) (by omega) (by omega) (by omega))
  have eg : gI 12 18 = 6 := by decide
  rw [eg] at HG
  have HP := Lib.hid (fun W ao (hy : Reads W ao (rowF 2 (gfV w57))) => reed_Put w57 2 3 ao 2 W (by omega) (by omega) (by omega) (Lib.hid hy))
  have e57 : rowF 2 (gfV w57) = [.int .u8 5, .int .u8 7] := by rfl
  clear eg
  go_enter Try.func29, Try.ntmps29
  go_wp2_with fail
  refine (HG.out _).mono ?_
  rintro e w1 ⟨rfl, q, rfl⟩
  go_wp2_with fail
  refine (HP.out _ _ (by rw [e57]; exact reads_new (w.drewN q) #[.int .u8 5, .int .u8 7] _)).mono ?_
  rintro e w2 ⟨g, cp, rfl, hO, hb2⟩
  have c2 := hO.cell (i := 2) (by omega)
  have hv : gfV (fun j => lag gf w57 2 (gf j)) 2 = .int .u8 1 := by unfold gfV; rw [works_row]; rfl
  rw [hv] at c2
  have HB2 : Hid (Below w.heap.size w w2) := (Below.alloc (below_dr w.heap.size w q) (Nat.le_refl _) _).trans (Below.mono hb2 (by simp))
  clear hO hb2 hv HP HG
  go_wp2_with fail
  go_ret
  exact ⟨by simp, HB2.out⟩
end Go.Proofs.Ytmeffbooabionaa
